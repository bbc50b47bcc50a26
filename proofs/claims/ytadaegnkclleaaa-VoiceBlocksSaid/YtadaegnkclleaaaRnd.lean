/- Rounding to a float: no further than a float that bounds what is rounded. Plain laws, no program in sight. -/
import Ieee.Arith
namespace Go.Proofs.Ytadaegnkclleaaa.Rnd
open Ieee

abbrev D : Format := double

theorem cut_le (neg : Bool) {n d q : Nat} (h : n ≤ q * 2 ^ d) : Toward.even.cut neg n d ≤ q := by
  unfold Toward.cut
  simp only [Nat.shiftLeft_eq, Nat.one_mul]
  by_cases hd : d ≤ n.log2 + 2
  · rw [Nat.min_eq_left hd]
    have hp : 0 < 2 ^ d := Nat.two_pow_pos d
    generalize hg : 2 ^ d = g at *
    have hdm := Nat.div_add_mod n g
    have hml := Nat.mod_lt n hp
    by_cases hlt : n / g < q
    · have : (decide (g < 2 * (n % g)) || (g == 2 * (n % g) && n / g % 2 == 1)).toNat ≤ 1 := by cases (decide (g < 2 * (n % g)) || (g == 2 * (n % g) && n / g % 2 == 1)) <;> decide
      omega
    · have hq : q ≤ n / g := by omega
      have h1 : q * g ≤ n / g * g := Nat.mul_le_mul_right _ hq
      have h2 : n / g * g = g * (n / g) := Nat.mul_comm _ _
      have h3 : n % g = 0 := by omega
      have h4 : n / g = q := by
        refine Nat.le_antisymm ?_ hq
        rcases Nat.lt_or_ge q (n / g) with hh | hh
        · have : (q + 1) * g ≤ n / g * g := Nat.mul_le_mul_right _ hh
          rw [Nat.add_mul] at this
          omega
        · exact hh
      have hb : (decide (g < 2 * (n % g)) || (g == 2 * (n % g) && n / g % 2 == 1)) = false := by
        rw [h3]
        have : ¬ g < 0 := by omega
        have h5 : (g == 2 * 0) = false := by rw [beq_eq_false_iff_ne]; omega
        simp [h5]
      rw [hb, h4]
      simp
  · rw [Nat.min_eq_right (by omega)]
    have hlt : n < 2 ^ (n.log2 + 1) := Nat.lt_log2_self
    have hg : 2 ^ (n.log2 + 2) = 2 * 2 ^ (n.log2 + 1) := by rw [Nat.pow_succ 2 (n.log2 + 1)]; omega
    rw [hg]
    generalize 2 ^ (n.log2 + 1) = g at *
    rw [Nat.div_eq_of_lt (by omega), Nat.mod_eq_of_lt (by omega)]
    have h1 : ¬ (2 * g < 2 * n) := by omega
    have h2 : (2 * g == 2 * n) = false := by rw [beq_eq_false_iff_ne]; omega
    simp [h1, h2]

theorem cut_ge (neg : Bool) {n d q : Nat} (h : q * 2 ^ d ≤ n) : q ≤ Toward.even.cut neg n d := by
  unfold Toward.cut
  simp only [Nat.shiftLeft_eq, Nat.one_mul]
  by_cases hd : d ≤ n.log2 + 2
  · rw [Nat.min_eq_left hd]
    have hp : 0 < 2 ^ d := Nat.two_pow_pos d
    have : q ≤ n / 2 ^ d := (Nat.le_div_iff_mul_le hp).2 h
    omega
  · have hlt : n < 2 ^ (n.log2 + 1) := Nat.lt_log2_self
    have hle : 2 ^ (n.log2 + 1) ≤ 2 ^ d := Nat.pow_le_pow_right (by decide) (by omega)
    have hq : q = 0 := by
      rcases Nat.eq_zero_or_pos q with h0 | h0
      · exact h0
      · have : 1 * 2 ^ d ≤ q * 2 ^ d := Nat.mul_le_mul_right _ h0
        omega
    rw [hq]
    exact Nat.zero_le _

/-- What a rung stands for, in units of 2 ^ (-1074). -/
def V (r : Nat) : Nat := if r < 2 ^ 52 then r else (2 ^ 52 + r % 2 ^ 52) * 2 ^ (r / 2 ^ 52 - 1)

theorem V_rung {e k : Nat} (hk : k ≤ 2 ^ 53) (he : e = 0 ∨ 2 ^ 52 ≤ k) : V (e * 2 ^ 52 + k) = k * 2 ^ e := by
  unfold V
  rcases he with rfl | he
  · rw [Nat.zero_mul, Nat.zero_add, Nat.pow_zero, Nat.mul_one]
    split
    · rfl
    · by_cases h : k = 2 ^ 53
      · subst h; decide
      · rw [show k / 2 ^ 52 = 1 from by omega, show k % 2 ^ 52 = k - 2 ^ 52 from by omega]
        simp
        omega
  · rw [if_neg (by omega)]
    by_cases h : k = 2 ^ 53
    · subst h
      rw [show (e * 2 ^ 52 + 2 ^ 53) / 2 ^ 52 = e + 2 from by omega, show (e * 2 ^ 52 + 2 ^ 53) % 2 ^ 52 = 0 from by omega, show e + 2 - 1 = e + 1 from by omega, Nat.pow_succ 2 e]
      rw [Nat.add_zero, ← Nat.mul_assoc, Nat.mul_right_comm, ← Nat.pow_succ 2 52]
    · rw [show (e * 2 ^ 52 + k) / 2 ^ 52 = e + 1 from by omega, show (e * 2 ^ 52 + k) % 2 ^ 52 = k - 2 ^ 52 from by omega, show e + 1 - 1 = e from by omega, show 2 ^ 52 + (k - 2 ^ 52) = k from by omega]

theorem V_succ (r : Nat) : V r < V (r + 1) := by
  by_cases h1 : r + 1 < 2 ^ 52
  · unfold V; rw [if_pos (by omega), if_pos h1]; omega
  · by_cases h2 : r < 2 ^ 52
    · have : r + 1 = 2 ^ 52 := by omega
      rw [this]; unfold V; rw [if_pos h2, if_neg (by omega)]; simp; omega
    · have e1 := V_rung (e := r / 2 ^ 52 - 1) (k := 2 ^ 52 + r % 2 ^ 52) (by omega) (.inr (by omega))
      have e2 := V_rung (e := r / 2 ^ 52 - 1) (k := 2 ^ 52 + r % 2 ^ 52 + 1) (by omega) (.inr (by omega))
      rw [show (r / 2 ^ 52 - 1) * 2 ^ 52 + (2 ^ 52 + r % 2 ^ 52) = r from by omega] at e1
      rw [show (r / 2 ^ 52 - 1) * 2 ^ 52 + (2 ^ 52 + r % 2 ^ 52 + 1) = r + 1 from by omega] at e2
      rw [e1, e2, Nat.add_mul _ 1]
      have := Nat.two_pow_pos (r / 2 ^ 52 - 1)
      omega

theorem V_lt {a b : Nat} (h : a < b) : V a < V b := by
  induction b with
  | zero => omega
  | succ b ih =>
    by_cases hb : a = b
    · subst hb; exact V_succ a
    · exact Nat.lt_trans (ih (by omega)) (V_succ b)

theorem V_le {a b : Nat} : V a ≤ V b ↔ a ≤ b := by
  constructor
  · intro h
    rcases Nat.lt_or_ge b a with hb | hb
    · have := V_lt hb; omega
    · exact hb
  · intro h
    rcases Nat.eq_or_lt_of_le h with rfl | h
    · exact Nat.le_refl _
    · exact Nat.le_of_lt (V_lt h)

/-- Either a rung's value is so many times 2 ^ e, or it lies below 2 ^ 52 times that. -/
theorem V_grid (r e : Nat) : (∃ q, V r = q * 2 ^ e) ∨ V r < 2 ^ 52 * 2 ^ e := by
  by_cases h : r < 2 ^ 52
  · right
    unfold V
    rw [if_pos h]
    have := Nat.two_pow_pos e
    calc r < 2 ^ 52 * 1 := by omega
      _ ≤ 2 ^ 52 * 2 ^ e := Nat.mul_le_mul_left _ this
  · by_cases he : e ≤ r / 2 ^ 52 - 1
    · left
      refine ⟨(2 ^ 52 + r % 2 ^ 52) * 2 ^ (r / 2 ^ 52 - 1 - e), ?_⟩
      unfold V
      rw [if_neg h, Nat.mul_assoc, ← Nat.pow_add, Nat.sub_add_cancel he]
    · right
      unfold V
      rw [if_neg h]
      have h1 : 2 ^ (r / 2 ^ 52 - 1 + 1) ≤ 2 ^ e := Nat.pow_le_pow_right (by decide) (by omega)
      rw [Nat.pow_succ] at h1
      have h2 : 2 ^ 52 + r % 2 ^ 52 < 2 ^ 53 := by omega
      have h3 := Nat.two_pow_pos (r / 2 ^ 52 - 1)
      generalize 2 ^ (r / 2 ^ 52 - 1) = g at *
      calc (2 ^ 52 + r % 2 ^ 52) * g < 2 ^ 53 * g := Nat.mul_lt_mul_of_pos_right h2 h3
        _ = 2 ^ 52 * (g * 2) := by omega
        _ ≤ 2 ^ 52 * 2 ^ e := Nat.mul_le_mul_left _ h1

/-- What 'nearest' writes: the rung, and how it stands to what is written. -/
theorem nearest_is (neg : Bool) {mag : Nat} (place : Int) (h0 : mag ≠ 0) : ∃ rung, D.nearest neg mag place = D.word neg (min rung D.infRung) ∧
    ∀ (s u r : Nat), (u : Int) = place + 1074 + s → (mag * 2 ^ u ≤ V r * 2 ^ s → rung ≤ r) ∧ (V r * 2 ^ s ≤ mag * 2 ^ u → r ≤ rung) := by
  have hf : D.fractionBits = 52 := rfl
  have hl : D.leastPlace = -1074 := by decide
  have hb : D.binade = 2 ^ 52 := by decide
  unfold Format.nearest
  rw [if_neg h0]
  simp only [hf, hl, hb]
  obtain ⟨e, he⟩ : ∃ e : Nat, max (place + mag.log2 - (52 : Nat)) (-1074) = (e : Int) - 1074 := ⟨(max (place + mag.log2 - (52 : Nat)) (-1074) + 1074).toNat, by omega⟩
  rw [he, show ((e : Int) - 1074 - -1074).toNat = e from by omega]
  refine ⟨_, rfl, ?_⟩
  obtain ⟨up, hup⟩ : ∃ up, (place - ((e : Int) - 1074)).toNat = up := ⟨_, rfl⟩
  obtain ⟨drop, hdr⟩ : ∃ drop, ((e : Int) - 1074 - place).toNat = drop := ⟨_, rfl⟩
  rw [hup, hdr, Nat.shiftLeft_eq]
  have hlog : 2 ^ mag.log2 ≤ mag := Nat.log2_self_le h0
  have hlt : mag < 2 ^ (mag.log2 + 1) := Nat.lt_log2_self
  generalize hL : mag.log2 = L at *
  -- how what is cut lies
  have hk : Toward.even.cut neg (mag * 2 ^ up) drop ≤ 2 ^ 53 := by
    refine cut_le neg ?_
    have h1 : mag * 2 ^ up ≤ 2 ^ (L + 1) * 2 ^ up := Nat.mul_le_mul_right _ (Nat.le_of_lt hlt)
    refine Nat.le_trans h1 ?_
    rw [← Nat.pow_add, ← Nat.pow_add]
    exact Nat.pow_le_pow_right (by decide) (by omega)
  have hk2 : e = 0 ∨ 2 ^ 52 * 2 ^ drop ≤ mag * 2 ^ up := by
    by_cases h : e = 0
    · exact .inl h
    · right
      refine Nat.le_trans ?_ (Nat.mul_le_mul_right _ hlog)
      rw [← Nat.pow_add, ← Nat.pow_add]
      exact Nat.pow_le_pow_right (by decide) (by omega)
  have hV : V (e * 2 ^ 52 + Toward.even.cut neg (mag * 2 ^ up) drop) = Toward.even.cut neg (mag * 2 ^ up) drop * 2 ^ e := V_rung hk (hk2.imp id fun h => cut_ge neg h)
  intro s u r hu
  have hx : mag * 2 ^ up * (2 ^ e * 2 ^ s) = mag * 2 ^ u * 2 ^ drop := by
    rw [← Nat.pow_add, Nat.mul_assoc, Nat.mul_assoc, ← Nat.pow_add, ← Nat.pow_add, show up + (e + s) = u + drop from by omega]
  have hes : 0 < 2 ^ e * 2 ^ s := Nat.mul_pos (Nat.two_pow_pos e) (Nat.two_pow_pos s)
  have grid : (∃ q, V r = q * 2 ^ e) ∨ (V r < 2 ^ 52 * 2 ^ e ∧ 2 ^ 52 * 2 ^ drop ≤ mag * 2 ^ up) := by
    rcases hk2 with h | h
    · subst h; exact .inl ⟨V r, by simp⟩
    · exact (V_grid r e).imp id fun hq => ⟨hq, h⟩
  refine ⟨fun hle => V_le.1 ?_, fun hge => V_le.1 ?_⟩
  · rw [hV]
    rcases grid with ⟨q, hq⟩ | ⟨hq, h⟩
    · rw [hq]
      refine Nat.mul_le_mul_right _ (cut_le neg ?_)
      refine Nat.le_of_mul_le_mul_right ?_ hes
      rw [hx]
      refine Nat.le_trans (Nat.mul_le_mul_right _ hle) (Nat.le_of_eq ?_)
      rw [hq]
      ac_rfl
    · exfalso
      have h1 := Nat.mul_le_mul_right (2 ^ e * 2 ^ s) h
      rw [hx] at h1
      have h2 := Nat.mul_le_mul_right (2 ^ drop) hle
      have h3 : V r * 2 ^ s * 2 ^ drop < 2 ^ 52 * 2 ^ e * 2 ^ s * 2 ^ drop := Nat.mul_lt_mul_of_pos_right (Nat.mul_lt_mul_of_pos_right hq (Nat.two_pow_pos s)) (Nat.two_pow_pos drop)
      have h4 : 2 ^ 52 * 2 ^ e * 2 ^ s * 2 ^ drop = 2 ^ 52 * 2 ^ drop * (2 ^ e * 2 ^ s) := by ac_rfl
      omega
  · rw [hV]
    rcases grid with ⟨q, hq⟩ | ⟨hq, h⟩
    · rw [hq]
      refine Nat.mul_le_mul_right _ (cut_ge neg ?_)
      refine Nat.le_of_mul_le_mul_right ?_ hes
      rw [hx]
      refine Nat.le_trans (Nat.le_of_eq ?_) (Nat.mul_le_mul_right _ hge)
      rw [hq]
      ac_rfl
    · exact Nat.le_of_lt (Nat.lt_of_lt_of_le hq (Nat.mul_le_mul_right _ (cut_ge neg h)))

end Go.Proofs.Ytadaegnkclleaaa.Rnd
