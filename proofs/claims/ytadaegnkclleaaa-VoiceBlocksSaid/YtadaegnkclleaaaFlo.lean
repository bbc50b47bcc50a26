/- Finite floats: an operation whose exact answer is bounded by a float answers a float that is bounded so. Plain laws, no program in sight. -/
import Derived.Test.YtadaegnkclleaaaRnd
namespace Go.Proofs.Ytadaegnkclleaaa.Flo
open Ieee Go.Proofs.Ytadaegnkclleaaa.Rnd

/-- The rung of a word: it, without its sign. -/
def rg (x : Nat) : Nat := x % 2 ^ 63
/-- Is the sign set? -/
def sg (x : Nat) : Bool := x / 2 ^ 63 % 2 == 1

def top : Nat := 2047 * 2 ^ 52
theorem top_is : D.infRung = top := by decide
theorem sw_is : D.signWeight = 2 ^ 63 := by decide
theorem bin_is : D.binade = 2 ^ 52 := by decide

theorem read_fin {x : Nat} (h : rg x < top) : ∃ (m e : Nat), D.read x = .number (sg x) m ((e : Int) - 1074) ∧ m * 2 ^ e = V (rg x) := by
  unfold Format.read
  simp only [sw_is, bin_is, top_is]
  have hl : D.leastPlace = -1074 := by decide
  change rg x < top at h
  by_cases h1 : rg x < 2 ^ 52
  · refine ⟨rg x, 0, ?_, by unfold V; rw [if_pos h1]; simp⟩
    unfold rg at *
    rw [if_pos h1, hl]
    simp [sg]
  · refine ⟨2 ^ 52 + rg x % 2 ^ 52, rg x / 2 ^ 52 - 1, ?_, by unfold V; rw [if_neg h1]⟩
    unfold rg at *
    rw [if_neg h1, if_pos h, hl]
    simp only [sg, Datum.number.injEq, true_and]
    omega

theorem rg_word (s : Bool) {r : Nat} (h : r ≤ top) : rg (D.word s r) = r := by
  unfold Format.word rg
  rw [sw_is]
  unfold top at h
  cases s
  · simp; omega
  · simp; omega

theorem sg_word (s : Bool) {r : Nat} (h : r ≤ top) : sg (D.word s r) = s := by
  unfold Format.word sg
  rw [sw_is]
  unfold top at h
  cases s
  · simp; omega
  · simp; omega

theorem V_zero : V 0 = 0 := by decide

/-- What is written of a number that two floats bound. -/
theorem write_le (s : Bool) (m : Nat) (p : Int) {r k u : Nat} (hu : (u : Int) = p + 1074 + k) (hr : r < top) (h : m * 2 ^ u ≤ V r * 2 ^ k) : ∃ r', D.write (.number s m p) = D.word s r' ∧ r' ≤ r := by
  by_cases h0 : m = 0
  · subst h0
    exact ⟨0, by simp [Format.write, Format.nearest], Nat.zero_le _⟩
  · obtain ⟨q, h1, h2⟩ := nearest_is s p h0
    have h3 := (h2 k u r hu).1 h
    refine ⟨q, ?_, h3⟩
    show D.nearest s m p = _
    rw [h1, top_is, Nat.min_eq_left (by omega)]

/-- .. and from below. -/
theorem write_ge (s : Bool) (m : Nat) (p : Int) {r k u : Nat} (hu : (u : Int) = p + 1074 + k) (hr : r ≤ top) (h : V r * 2 ^ k ≤ m * 2 ^ u) : ∃ r', D.write (.number s m p) = D.word s r' ∧ r ≤ r' ∧ r' ≤ top := by
  by_cases h0 : m = 0
  · subst h0
    have hp := Nat.two_pow_pos k
    have hv : V r = 0 := by
      rcases Nat.eq_zero_or_pos (V r) with h1 | h1
      · exact h1
      · have := Nat.mul_pos h1 hp; omega
    have : r ≤ 0 := V_le.1 (by rw [hv]; exact Nat.zero_le _)
    exact ⟨0, by simp [Format.write, Format.nearest], by omega, Nat.zero_le _⟩
  · obtain ⟨q, h1, h2⟩ := nearest_is s p h0
    have h3 := (h2 k u r hu).2 h
    refine ⟨min q top, ?_, by omega, by omega⟩
    show D.nearest s m p = _
    rw [h1, top_is]

/-- .. and if it is one. -/
theorem write_eq (s : Bool) (m : Nat) (p : Int) {r k u : Nat} (hu : (u : Int) = p + 1074 + k) (hr : r < top) (h : m * 2 ^ u = V r * 2 ^ k) : D.write (.number s m p) = D.word s r := by
  obtain ⟨a, h1, h2⟩ := write_le s m p hu hr (Nat.le_of_eq h)
  obtain ⟨b, h3, h4, h5⟩ := write_ge s m p hu (Nat.le_of_lt hr) (Nat.le_of_eq h.symm)
  have hab : a = b := by
    have := congrArg rg (h1.symm.trans h3)
    rwa [rg_word s (by omega), rg_word s h5] at this
  rw [h1]
  congr 1
  omega

theorem mul_le {x y r : Nat} (hx : rg x < top) (hy : rg y < top) (hr : r < top) (h : V (rg x) * V (rg y) ≤ V r * 2 ^ 1074) : ∃ z, D.mul x y = some z ∧ rg z ≤ r ∧ sg z = (sg x ^^ sg y) := by
  obtain ⟨m, e, h1, h2⟩ := read_fin hx
  obtain ⟨n, d, h3, h4⟩ := read_fin hy
  obtain ⟨q, h5, h6⟩ := write_le (sg x ^^ sg y) (m * n) ((e : Int) - 1074 + ((d : Int) - 1074)) (k := 1074) (u := e + d) (by omega) hr (by
    rw [Nat.pow_add, show m * n * (2 ^ e * 2 ^ d) = m * 2 ^ e * (n * 2 ^ d) from by ac_rfl, h2, h4]; exact h)
  refine ⟨_, by unfold Format.mul; rw [h1, h3]; rfl, ?_, ?_⟩
  · rw [h5, rg_word _ (by omega)]; exact h6
  · rw [h5, sg_word _ (by omega)]

theorem mul_leE {E : Nat} (hE : E = 1074) {x y r : Nat} (hx : rg x < top) (hy : rg y < top) (hr : r < top) (h : V (rg x) * V (rg y) ≤ V r * 2 ^ E) : ∃ z, D.mul x y = some z ∧ rg z ≤ r ∧ sg z = (sg x ^^ sg y) := by
  subst hE
  exact mul_le hx hy hr h

theorem signed_abs (s t : Bool) (a b : Nat) : (signed s a 0 + signed t b 0).natAbs ≤ a + b := by
  unfold signed
  cases s <;> cases t <;> simp <;> omega

theorem signed_shift (s : Bool) (m k : Nat) : signed s m k = signed s (m * 2 ^ k) 0 := by
  unfold signed
  rw [Nat.shiftLeft_eq, Nat.shiftLeft_eq, Nat.pow_zero, Nat.mul_one]

theorem abs_mul (a : Int) (k : Nat) : a.natAbs * 2 ^ k = (a * (2 ^ k : Nat)).natAbs := by rw [Int.natAbs_mul, Int.natAbs_natCast]

theorem signed_mul (s : Bool) (m k : Nat) : signed s m 0 * ((2 ^ k : Nat) : Int) = signed s (m * 2 ^ k) 0 := by
  unfold signed
  cases s <;> simp [Int.neg_mul]

theorem sum_le {s t : Bool} {m n e d r : Nat} (hr : r < top) (h : m * 2 ^ e + n * 2 ^ d ≤ V r) :
    ∃ z u, Datum.sum (.number s m ((e : Int) - 1074)) (.number t n ((d : Int) - 1074)) = some u ∧ D.write u = z ∧ rg z ≤ r := by
  obtain ⟨b, hb⟩ : ∃ b : Nat, min ((e : Int) - 1074) ((d : Int) - 1074) = (b : Int) - 1074 := ⟨min e d, by omega⟩
  refine ⟨_, _, rfl, rfl, ?_⟩
  rw [hb, show ((e : Int) - 1074 - ((b : Int) - 1074)).toNat = e - b from by omega, show ((d : Int) - 1074 - ((b : Int) - 1074)).toNat = d - b from by omega, signed_shift s, signed_shift t]
  have hk : ((signed s (m * 2 ^ (e - b)) 0 + signed t (n * 2 ^ (d - b)) 0)).natAbs * 2 ^ b ≤ V r * 2 ^ 0 := by
    rw [abs_mul, Int.add_mul, signed_mul, signed_mul, Nat.mul_assoc, Nat.mul_assoc, ← Nat.pow_add, ← Nat.pow_add, show e - b + b = e from by omega, show d - b + b = d from by omega]
    exact Nat.le_trans (signed_abs _ _ _ _) (by omega)
  obtain ⟨q, h5, h6⟩ := write_le (if signed s (m * 2 ^ (e - b)) 0 + signed t (n * 2 ^ (d - b)) 0 = 0 then s && t else signed s (m * 2 ^ (e - b)) 0 + signed t (n * 2 ^ (d - b)) 0 < 0) _ ((b : Int) - 1074) (k := 0) (u := b) (by omega) hr hk
  rw [h5, rg_word _ (by omega)]
  exact h6

theorem add_le {x y r : Nat} (hx : rg x < top) (hy : rg y < top) (hr : r < top) (h : V (rg x) + V (rg y) ≤ V r) : ∃ z, D.add x y = some z ∧ rg z ≤ r := by
  obtain ⟨m, e, h1, h2⟩ := read_fin hx
  obtain ⟨n, d, h3, h4⟩ := read_fin hy
  obtain ⟨z, u, h5, h6, h7⟩ := sum_le (s := sg x) (t := sg y) (m := m) (n := n) (e := e) (d := d) hr (by rw [h2, h4]; exact h)
  exact ⟨z, by unfold Format.add; rw [h1, h3, h5]; simp [h6], h7⟩

theorem sub_le {x y r : Nat} (hx : rg x < top) (hy : rg y < top) (hr : r < top) (h : V (rg x) + V (rg y) ≤ V r) : ∃ z, D.sub x y = some z ∧ rg z ≤ r := by
  obtain ⟨m, e, h1, h2⟩ := read_fin hx
  obtain ⟨n, d, h3, h4⟩ := read_fin hy
  obtain ⟨z, u, h5, h6, h7⟩ := sum_le (s := sg x) (t := !sg y) (m := m) (n := n) (e := e) (d := d) hr (by rw [h2, h4]; exact h)
  exact ⟨z, by unfold Format.sub; rw [h1, h3]; show Option.map D.write (Datum.sum _ (Datum.number (!sg y) n _)) = _; rw [h5]; simp [h6], h7⟩

theorem log2_lt {m b : Nat} (h : m < 2 ^ b) (hb : 0 < b) : m.log2 < b := by
  by_cases h0 : m = 0
  · subst h0; simpa using hb
  · exact (Nat.log2_lt h0).2 h

theorem mag_lt {x : Nat} (h : rg x < top) {m e : Nat} (h1 : D.read x = .number (sg x) m ((e : Int) - 1074)) (h2 : m * 2 ^ e = V (rg x)) : m < 2 ^ 53 := by
  obtain ⟨m', e', h3, h4⟩ := read_fin h
  rw [h3] at h1
  simp only [Datum.number.injEq, true_and] at h1
  obtain ⟨rfl, he⟩ := h1
  have hl : D.leastPlace = -1074 := by decide
  unfold Format.read at h3
  simp only [sw_is, bin_is, top_is] at h3
  split at h3
  · simp only [Datum.number.injEq] at h3
    omega
  · rw [if_pos (by unfold rg at h; exact h)] at h3
    simp only [Datum.number.injEq] at h3
    omega

theorem pw (E t d more : Nat) : 2 ^ (t + d + more + 1) * 2 ^ E = 2 ^ (E + t) * 2 ^ (d + more + 1) := by
  rw [← Nat.pow_add, ← Nat.pow_add]
  congr 1
  omega

/-- A quotient that is at most 2 ^ t. -/
theorem div_le {x y r t : Nat} (hx : rg x < top) (hy : rg y < top) (h0 : 0 < rg y) (hr : r < top) (hV : V r = 2 ^ (1074 + t)) (h : V (rg x) ≤ 2 ^ t * V (rg y)) : ∃ z, D.div x y = some z ∧ rg z ≤ r ∧ sg z = (sg x ^^ sg y) := by
  obtain ⟨m, e, h1, h2⟩ := read_fin hx
  obtain ⟨n, d, h3, h4⟩ := read_fin hy
  have hm := mag_lt hx h1 h2
  have hVy : 0 < V (rg y) := by have := V_lt h0; omega
  have hn : n ≠ 0 := by rintro rfl; rw [Nat.zero_mul] at h4; omega
  have hlm : m.log2 < 53 := log2_lt hm (by decide)
  obtain ⟨more, hmo⟩ : ∃ more, 52 + 2 + n.log2 - m.log2 = more := ⟨_, rfl⟩
  have hq : Datum.quotient 54 (.number (sg x) m ((e : Int) - 1074)) (.number (sg y) n ((d : Int) - 1074)) =
      some (.number (sg x ^^ sg y) (2 * (m <<< more / n) + (m <<< more % n != 0).toNat) (((e : Int) - 1074) - ((d : Int) - 1074) - more - 1)) := by
    unfold Datum.quotient
    simp only [if_neg hn]
    rw [← hmo]
  have hb : (2 * (m <<< more / n) + (m <<< more % n != 0).toNat) * 2 ^ e ≤ 2 ^ (t + d + more + 1) := by
    rw [Nat.shiftLeft_eq]
    have hle : m * 2 ^ more * 2 ^ e ≤ n * 2 ^ (t + d + more) := by
      have h5 := Nat.mul_le_mul_right (2 ^ more) (h2 ▸ h4 ▸ h : m * 2 ^ e ≤ 2 ^ t * (n * 2 ^ d))
      rw [show n * 2 ^ (t + d + more) = 2 ^ t * (n * 2 ^ d) * 2 ^ more from by rw [Nat.pow_add, Nat.pow_add]; ac_rfl]
      exact Nat.le_trans (Nat.le_of_eq (by ac_rfl)) h5
    by_cases he : e ≤ t + d + more
    · obtain ⟨K, hK⟩ : ∃ K, 2 ^ (t + d + more - e) = K := ⟨_, rfl⟩
      have hKe : 2 ^ (t + d + more) = K * 2 ^ e := by rw [← hK, ← Nat.pow_add, Nat.sub_add_cancel he]
      have h6 : m * 2 ^ more ≤ n * K := by
        refine Nat.le_of_mul_le_mul_right ?_ (Nat.two_pow_pos e)
        rw [Nat.mul_assoc n, ← hKe]
        exact hle
      have h7 : 2 * (m * 2 ^ more / n) + (m * 2 ^ more % n != 0).toNat ≤ 2 * K := by
        generalize m * 2 ^ more = q at *
        have h8 := Nat.div_add_mod q n
        by_cases h9 : q / n < K
        · have : (q % n != 0).toNat ≤ 1 := by cases (q % n != 0) <;> decide
          omega
        · have h10 : n * K ≤ n * (q / n) := Nat.mul_le_mul_left _ (by omega)
          have h11 : q % n = 0 := by omega
          have h12 : q / n ≤ K := Nat.div_le_of_le_mul h6
          have h13 : (q % n != 0).toNat = 0 := by rw [h11]; rfl
          omega
      refine Nat.le_trans (Nat.mul_le_mul_right _ h7) ?_
      rw [Nat.pow_succ 2 (t + d + more), hKe]
      exact Nat.le_of_eq (by ac_rfl)
    · by_cases hm0 : m = 0
      · subst hm0; simp
      · exfalso
        have h5 : 2 ^ m.log2 ≤ m := Nat.log2_self_le hm0
        have h6 : n < 2 ^ (n.log2 + 1) := Nat.lt_log2_self
        have h7 : 2 ^ (n.log2 + 1) ≤ m * 2 ^ more := by
          refine Nat.le_trans ?_ (Nat.mul_le_mul_right _ h5)
          rw [← Nat.pow_add]
          exact Nat.pow_le_pow_right (by decide) (by omega)
        have h8 : n * 2 ^ (t + d + more) ≤ n * 2 ^ e := Nat.mul_le_mul_left _ (Nat.pow_le_pow_right (by decide) (by omega))
        have h9 : m * 2 ^ more ≤ n := Nat.le_of_mul_le_mul_right (Nat.le_trans hle h8) (Nat.two_pow_pos e)
        omega
  have key : ∀ E : Nat, V r = 2 ^ (E + t) → (2 * (m <<< more / n) + (m <<< more % n != 0).toNat) * 2 ^ (e + E) ≤ V r * 2 ^ (d + more + 1) := by
    intro E hE
    rw [hE, Nat.pow_add 2 e, ← Nat.mul_assoc]
    exact Nat.le_trans (Nat.mul_le_mul_right _ hb) (Nat.le_of_eq (pw E t d more))
  obtain ⟨q, h5, h6⟩ := write_le (sg x ^^ sg y) (2 * (m <<< more / n) + (m <<< more % n != 0).toNat) (((e : Int) - 1074) - ((d : Int) - 1074) - more - 1) (k := d + more + 1) (u := e + 1074) (by omega) hr (key _ hV)
  refine ⟨_, by unfold Format.div; rw [h1, h3]; show Option.map D.write (Datum.quotient 54 _ _) = _; rw [hq]; rfl, ?_, ?_⟩
  · rw [h5, rg_word _ (by omega)]; exact h6
  · rw [h5, sg_word _ (by omega)]

theorem div_leE {E : Nat} (hE : E = 1074) {x y r t : Nat} (hx : rg x < top) (hy : rg y < top) (h0 : 0 < rg y) (hr : r < top) (hV : V r = 2 ^ t * 2 ^ E) (h : V (rg x) ≤ 2 ^ t * V (rg y)) : ∃ z, D.div x y = some z ∧ rg z ≤ r ∧ sg z = (sg x ^^ sg y) := by
  refine div_le hx hy h0 hr ?_ h
  rw [← hE, hV, Nat.pow_add, Nat.mul_comm]

/-- Divided by a power of two, exactly. -/
theorem div_pow {x y r k : Nat} (hx : rg x < top) (hy : D.read y = .number false (2 ^ 52) ((k : Int) - 52)) (hr : r < top) (h : V (rg x) = V r * 2 ^ k) : D.div x y = some (D.word (sg x) r) := by
  obtain ⟨m, e, h1, h2⟩ := read_fin hx
  have hm := mag_lt hx h1 h2
  have hlm : m.log2 < 53 := log2_lt hm (by decide)
  obtain ⟨more, hmo⟩ : ∃ more, 52 + 2 + 52 - m.log2 = more := ⟨_, rfl⟩
  have hq : Datum.quotient 54 (.number (sg x) m ((e : Int) - 1074)) (.number false (2 ^ 52) ((k : Int) - 52)) =
      some (.number (sg x) (2 * (m * 2 ^ (more - 52))) (((e : Int) - 1074) - ((k : Int) - 52) - more - 1)) := by
    unfold Datum.quotient
    have hl : (2 ^ 52 : Nat).log2 = 52 := by decide +kernel
    simp only [if_neg (show (2 ^ 52 : Nat) ≠ 0 from by decide), hl, Bool.xor_false]
    rw [show 54 + 52 - m.log2 = more from hmo, Nat.shiftLeft_eq]
    have hs : m * 2 ^ more = m * 2 ^ (more - 52) * 2 ^ 52 := by rw [Nat.mul_assoc, ← Nat.pow_add, show more - 52 + 52 = more from by omega]
    rw [hs, Nat.mul_div_cancel _ (by decide), Nat.mul_mod_left]
    rfl
  have hw := write_eq (sg x) (2 * (m * 2 ^ (more - 52))) (((e : Int) - 1074) - ((k : Int) - 52) - more - 1) (k := k + more + 1) (u := e + 52) (by omega) hr (by
    rw [show 2 * (m * 2 ^ (more - 52)) * 2 ^ (e + 52) = m * 2 ^ e * 2 ^ (more + 1) from by
      rw [show 2 * (m * 2 ^ (more - 52)) * 2 ^ (e + 52) = m * 2 ^ e * (2 ^ 1 * 2 ^ (more - 52) * 2 ^ 52) from by rw [Nat.pow_add 2 e, Nat.pow_one]; ac_rfl]
      rw [← Nat.pow_add, ← Nat.pow_add, show 1 + (more - 52) + 52 = more + 1 from by omega], h2, h, Nat.mul_assoc, ← Nat.pow_add, Nat.add_assoc])
  unfold Format.div
  rw [h1, hy]
  show Option.map D.write (Datum.quotient 54 _ _) = _
  rw [hq]
  simp [hw]

end Go.Proofs.Ytadaegnkclleaaa.Flo
