/- Finite floats: how two stand to each other; whole numbers as floats, and back. Plain laws, no program in sight. -/
import Derived.Test.YtadaegnkclleaaaFlo
import GoSem.Core.Float
namespace Go.Proofs.Ytadaegnkclleaaa.Flc
open Ieee Go.Proofs.Ytadaegnkclleaaa.Rnd Go.Proofs.Ytadaegnkclleaaa.Flo

theorem compare_mul (a b : Int) {k : Nat} : compare (a * (2 ^ k : Nat)) (b * (2 ^ k : Nat)) = compare a b := by
  have hp : (0 : Int) < ((2 ^ k : Nat) : Int) := by have := Nat.two_pow_pos k; omega
  have h1 : a * ((2 ^ k : Nat) : Int) < b * ((2 ^ k : Nat) : Int) ↔ a < b := ⟨fun h => Int.lt_of_mul_lt_mul_right h (Int.le_of_lt hp), fun h => Int.mul_lt_mul_of_pos_right h hp⟩
  have h2 : a * ((2 ^ k : Nat) : Int) = b * ((2 ^ k : Nat) : Int) ↔ a = b := ⟨fun h => Int.eq_of_mul_eq_mul_right (by omega) h, fun h => by rw [h]⟩
  simp only [compare, compareOfLessAndEq, h1, h2]

theorem order_fin {x y : Nat} (hx : rg x < top) (hy : rg y < top) : D.order x y = some (compare (signed (sg x) (V (rg x)) 0) (signed (sg y) (V (rg y)) 0)) := by
  obtain ⟨m, e, h1, h2⟩ := read_fin hx
  obtain ⟨n, d, h3, h4⟩ := read_fin hy
  unfold Format.order
  rw [h1, h3]
  unfold Datum.order
  obtain ⟨b, hb⟩ : ∃ b : Nat, min ((e : Int) - 1074) ((d : Int) - 1074) = (b : Int) - 1074 := ⟨min e d, by omega⟩
  simp only [hb]
  rw [show ((e : Int) - 1074 - ((b : Int) - 1074)).toNat = e - b from by omega, show ((d : Int) - 1074 - ((b : Int) - 1074)).toNat = d - b from by omega, signed_shift (sg x) m, signed_shift (sg y) n,
    ← compare_mul (k := b), signed_mul, signed_mul, Nat.mul_assoc, Nat.mul_assoc, ← Nat.pow_add, ← Nat.pow_add, show e - b + b = e from by omega, show d - b + b = d from by omega, h2, h4]

/-- The place of the last digit of the least float, turned round. -/
def bias : Nat := 1074
theorem bias_is : bias = 1074 := rfl

/-- A whole number below 2 ^ 53 is a float: its rung. -/
def nr (n : Nat) : Nat := if n = 0 then 0 else (1022 + n.log2) * 2 ^ 52 + n * 2 ^ (52 - n.log2)

theorem V_nr {n : Nat} (h : n < 2 ^ 53) : V (nr n) = n * 2 ^ bias ∧ nr n < top := by
  unfold nr
  by_cases h0 : n = 0
  · subst h0; exact ⟨by rw [if_pos rfl]; simp [V_zero], by decide⟩
  · rw [if_neg h0]
    have hl : n.log2 < 53 := log2_lt h (by decide)
    have h1 : 2 ^ n.log2 ≤ n := Nat.log2_self_le h0
    have h2 : n < 2 ^ (n.log2 + 1) := Nat.lt_log2_self
    have h3 : 2 ^ 52 ≤ n * 2 ^ (52 - n.log2) := by
      have := Nat.mul_le_mul_right (2 ^ (52 - n.log2)) h1
      rwa [← Nat.pow_add, show n.log2 + (52 - n.log2) = 52 from by omega] at this
    have h4 : n * 2 ^ (52 - n.log2) ≤ 2 ^ 53 := by
      have := Nat.mul_le_mul_right (2 ^ (52 - n.log2)) (Nat.le_of_lt h2)
      rwa [← Nat.pow_add, show n.log2 + 1 + (52 - n.log2) = 53 from by omega] at this
    constructor
    · rw [V_rung h4 (.inr h3), Nat.mul_assoc, ← Nat.pow_add, show 52 - n.log2 + (1022 + n.log2) = bias from by rw [bias_is]; omega]
    · unfold top
      omega

theorem nearest_int (z : Int) (h : z.natAbs < 2 ^ 53) : FloatKind.f64.nearest z = D.word (decide (z < 0)) (nr z.natAbs) := by
  obtain ⟨h1, h2⟩ := V_nr h
  exact write_eq (decide (z < 0)) z.natAbs 0 (k := 0) (u := bias) (by rw [bias_is]; omega) h2 (by rw [h1]; simp)

theorem rg_int (z : Int) (h : z.natAbs < 2 ^ 53) : rg (FloatKind.f64.nearest z) = nr z.natAbs ∧ sg (FloatKind.f64.nearest z) = decide (z < 0) := by
  obtain ⟨h1, h2⟩ := V_nr h
  rw [nearest_int z h]
  exact ⟨rg_word _ (Nat.le_of_lt h2), sg_word _ (Nat.le_of_lt h2)⟩

theorem nr_le {a b : Nat} (ha : a < 2 ^ 53) (hb : b < 2 ^ 53) : nr a ≤ nr b ↔ a ≤ b := by
  rw [← V_le, (V_nr ha).1, (V_nr hb).1]
  have := Nat.two_pow_pos bias
  exact ⟨fun h => Nat.le_of_mul_le_mul_right h this, fun h => Nat.mul_le_mul_right _ h⟩

theorem pw2 (n : Nat) {E up dr e : Nat} (h : E + up = dr + e) : n * 2 ^ E * 2 ^ up = 2 ^ dr * n * 2 ^ e := by
  rw [Nat.mul_assoc, ← Nat.pow_add, h, Nat.pow_add]
  ac_rfl

/-- A float that is at most n (n below 2 ^ 53) and not below zero, made whole. -/
theorem toInt_le {x n : Nat} (hx : rg x ≤ nr n) (hn : n < 2 ^ 53) (hs : sg x = false ∨ rg x = 0) : ∃ k : Nat, (D.read x).toInt .zero = some (k : Int) ∧ k ≤ n := by
  obtain ⟨h1, h2⟩ := V_nr hn
  have hf : rg x < top := by omega
  obtain ⟨m, e, h3, h4⟩ := read_fin hf
  have hle : m * 2 ^ e ≤ n * 2 ^ bias := by rw [h4, ← h1]; exact V_le.2 hx
  rw [h3]
  unfold Datum.toInt Datum.integral Toward.cut
  simp only [Nat.shiftLeft_eq, Nat.one_mul, Bool.toNat_false, Nat.add_zero]
  obtain ⟨up, hup⟩ : ∃ up, ((e : Int) - 1074).toNat = up := ⟨_, rfl⟩
  obtain ⟨dr, hdr⟩ : ∃ dr, (-((e : Int) - 1074)).toNat = dr := ⟨_, rfl⟩
  rw [hup, hdr]
  have hk : m * 2 ^ up / 2 ^ min dr ((m * 2 ^ up).log2 + 2) ≤ n := by
    by_cases hd : dr ≤ (m * 2 ^ up).log2 + 2
    · rw [Nat.min_eq_left hd]
      refine Nat.div_le_of_le_mul ?_
      refine Nat.le_of_mul_le_mul_right ?_ (Nat.two_pow_pos e)
      rw [show m * 2 ^ up * 2 ^ e = m * 2 ^ e * 2 ^ up from by ac_rfl]
      refine Nat.le_trans (Nat.mul_le_mul_right _ hle) (Nat.le_of_eq ?_)
      exact pw2 n (by rw [bias_is]; omega)
    · rw [Nat.min_eq_right (by omega), Nat.div_eq_of_lt]
      · exact Nat.zero_le _
      · exact Nat.lt_of_lt_of_le Nat.lt_log2_self (Nat.pow_le_pow_right (by decide) (by omega))
  refine ⟨m * 2 ^ up / 2 ^ min dr ((m * 2 ^ up).log2 + 2), ?_, hk⟩
  rcases hs with hs | hs
  · rw [hs]
    simp [signed]
  · rw [hs, V_zero] at h4
    have hm : m = 0 := by
      rcases Nat.eq_zero_or_pos m with h | h
      · exact h
      · have := Nat.mul_pos h (Nat.two_pow_pos e); omega
    subst hm
    simp [signed]

end Go.Proofs.Ytadaegnkclleaaa.Flc
