/- Sine, the program's and the reference's. -/
import Derived.Test.YtadaegnkclleaaaVTab
namespace Go.Proofs.Ytadaegnkclleaaa.VSine
open Go Go.RowKit Go.Proofs.Ytadaegnkclleaaa.Rnd Go.Proofs.Ytadaegnkclleaaa.Flo Go.Proofs.Ytadaegnkclleaaa.Flc Go.Proofs.Ytadaegnkclleaaa.VTab
set_option linter.unusedVariables false

def fneg (x : Nat) : Nat := Op.negFloat .f64 x

@[go_sem] theorem unary_neg_float (x : Nat) : Op.unary .neg (.float .f64 x) = pure (.float .f64 (fneg x)) := rfl

theorem rg_neg (x : Nat) : rg (fneg x) = rg x := by
  show (x ^^^ 2 ^ 63) % 2 ^ 63 = x % 2 ^ 63
  rw [Nat.xor_mod_two_pow]
  simp

/-- The sine of so many 256ths of a circle. -/
def atW (j : Nat) : Nat := if j ≤ 64 then quarterW j else if j ≤ 128 then quarterW (128 - j) else if j ≤ 192 then fneg (quarterW (j - 128)) else fneg (quarterW (256 - j))

theorem at_le {j : Nat} (h : j < 256) : rg (atW j) ≤ fone := by
  unfold atW
  split
  · exact quarter_le (by omega)
  · split
    · exact quarter_le (by omega)
    · split
      · rw [rg_neg]; exact quarter_le (by omega)
      · rw [rg_neg]; exact quarter_le (by omega)

theorem and_mask (k b : Nat) (hk : k < 4294967296) (hb : b < 32) : bits .and .u32 (k : Int) ((2 ^ b - 1 : Nat) : Int) = ((k % 2 ^ b : Nat) : Int) := by
  unfold bits
  simp only
  have hp : 2 ^ b < 4294967296 := Nat.lt_of_lt_of_le (Nat.pow_lt_pow_right (by decide) hb) (by decide)
  have hq := Nat.two_pow_pos b
  have h0 : IntKind.u32.bits = 32 := rfl
  have e1 : ((BitVec.ofInt IntKind.u32.bits (k : Int)) &&& (BitVec.ofInt IntKind.u32.bits ((2 ^ b - 1 : Nat) : Int))).toNat = k % 2 ^ b := by
    rw [BitVec.toNat_and, BitVec.ofInt_natCast, BitVec.ofInt_natCast, BitVec.toNat_ofNat, BitVec.toNat_ofNat, h0, Nat.mod_eq_of_lt (a := k) (by omega), Nat.mod_eq_of_lt (a := 2 ^ b - 1) (by omega), Nat.and_two_pow_sub_one_eq_mod]
  rw [e1]
  have h2 : k % 2 ^ b < 2 ^ b := Nat.mod_lt _ hq
  generalize k % 2 ^ b = q at *
  unfold IntKind.wrap
  simp [IntKind.signed, IntKind.bits]
  omega

set_option maxHeartbeats 400000 in
set_option maxRecDepth 100000 in
theorem at_calls (k : Nat) (w : World) (hk : k < 4294967296) : Calls Try.prog 20 #[.int .u32 k] w fun e w' => e = .returned (.float .f64 (atW (k % 256))) ∧ w = w' := by
  have hand : bits .and .u32 (k : Int) 255 = ((k % 256 : Nat) : Int) := and_mask k 8 hk (by decide)
  obtain ⟨j, hj⟩ : ∃ j, j = k % 256 := ⟨_, rfl⟩
  rw [← hj] at hand ⊢
  have hj2 : j < 256 := by omega
  clear hj
  unfold atW
  by_cases h1 : j ≤ 64
  · have a1 : (j : Int) ≤ 64 := by omega
    rw [if_pos h1]
    obtain ⟨q, hq⟩ : ∃ q, quarterW (j) = q := ⟨_, rfl⟩
    have hc := fun w => quarter (j) w (by omega)
    rw [hq] at hc ⊢
    have HC := Lib.hid hc
    clear hc hq
    go_enter Try.func20, Try.ntmps20
    go_wp2_with (go_at_call 27; refine (HC.out _).mono ?_; rintro e w1 ⟨rfl, rfl⟩)
    go_ret
    exact ⟨rfl, rfl⟩
  rw [if_neg h1]
  have a1 : ¬ (j : Int) ≤ 64 := by omega
  by_cases h2 : j ≤ 128
  · have a2 : (j : Int) ≤ 128 := by omega
    have a3 : ((128 : Int) - j) = ((128 - j : Nat) : Int) := by omega
    rw [if_pos h2]
    obtain ⟨q, hq⟩ : ∃ q, quarterW (128 - j) = q := ⟨_, rfl⟩
    have hc := fun w => quarter (128 - j) w (by omega)
    rw [hq] at hc ⊢
    have HC := Lib.hid hc
    clear hc hq
    go_enter Try.func20, Try.ntmps20
    go_wp2_with (go_at_call 27; refine (HC.out _).mono ?_; rintro e w1 ⟨rfl, rfl⟩)
    go_ret
    exact ⟨rfl, rfl⟩
  rw [if_neg h2]
  have a2 : ¬ (j : Int) ≤ 128 := by omega
  by_cases h3 : j ≤ 192
  · have a3 : (j : Int) ≤ 192 := by omega
    have a4 : ((j : Int) - 128) = ((j - 128 : Nat) : Int) := by omega
    rw [if_pos h3]
    obtain ⟨q, hq⟩ : ∃ q, quarterW (j - 128) = q := ⟨_, rfl⟩
    have hc := fun w => quarter (j - 128) w (by omega)
    rw [hq] at hc ⊢
    have HC := Lib.hid hc
    clear hc hq
    go_enter Try.func20, Try.ntmps20
    go_wp2_with (go_at_call 27; refine (HC.out _).mono ?_; rintro e w1 ⟨rfl, rfl⟩)
    go_ret
    exact ⟨rfl, rfl⟩
  rw [if_neg h3]
  have a3 : ¬ (j : Int) ≤ 192 := by omega
  have a4 : ((256 : Int) - j) = ((256 - j : Nat) : Int) := by omega
  · obtain ⟨q, hq⟩ : ∃ q, quarterW (256 - j) = q := ⟨_, rfl⟩
    have hc := fun w => quarter (256 - j) w (by omega)
    rw [hq] at hc ⊢
    have HC := Lib.hid hc
    clear hc hq
    go_enter Try.func20, Try.ntmps20
    go_wp2_with (go_at_call 27; refine (HC.out _).mono ?_; rintro e w1 ⟨rfl, rfl⟩)
    go_ret
    exact ⟨rfl, rfl⟩

theorem tmod_nat (k n : Nat) : Int.tmod (k : Int) (n : Int) = ((k % n : Nat) : Int) := rfl

set_option maxHeartbeats 400000 in
set_option maxRecDepth 100000 in
theorem ref_at_low (k : Nat) (w : World) (hk : k ≤ 128) : Calls Try.prog 21 #[.int .i64 k] w fun e w' => e = .returned (.float .f64 (atW k)) ∧ w = w' := by
  have hm : Int.tmod (k : Int) 256 = (k : Int) := by
    have := tmod_nat k 256
    rwa [Nat.mod_eq_of_lt (by omega)] at this
  have h0 : ¬ (128 : Int) < k := by omega
  unfold atW
  by_cases h1 : k ≤ 64
  · have a1 : ¬ (64 : Int) < k := by omega
    rw [if_pos h1]
    obtain ⟨q, hq⟩ : ∃ q, quarterW k = q := ⟨_, rfl⟩
    have hc := fun w => ref_quarter k w (by omega)
    rw [hq] at hc ⊢
    have HC := Lib.hid hc
    clear hc hq
    go_enter Try.func21, Try.ntmps21
    go_wp2_with (go_at_call 28; refine (HC.out _).mono ?_; rintro e w1 ⟨rfl, rfl⟩)
    go_ret
    exact ⟨rfl, rfl⟩
  · have a1 : (64 : Int) < k := by omega
    have a3 : ((128 : Int) - k) = ((128 - k : Nat) : Int) := by omega
    rw [if_neg h1, if_pos hk]
    obtain ⟨q, hq⟩ : ∃ q, quarterW (128 - k) = q := ⟨_, rfl⟩
    have hc := fun w => ref_quarter (128 - k) w (by omega)
    rw [hq] at hc ⊢
    have HC := Lib.hid hc
    clear hc hq
    go_enter Try.func21, Try.ntmps21
    go_wp2_with (go_at_call 28; refine (HC.out _).mono ?_; rintro e w1 ⟨rfl, rfl⟩)
    go_ret
    exact ⟨rfl, rfl⟩

theorem at_high {j : Nat} (h : 128 < j) (h2 : j < 256) : atW j = fneg (atW (j - 128)) := by
  unfold atW
  rw [if_neg (by omega), if_neg (by omega)]
  by_cases h3 : j ≤ 192
  · rw [if_pos h3, if_pos (by omega)]
  · rw [if_neg h3, if_neg (by omega), if_pos (by omega), show 128 - (j - 128) = 256 - j from by omega]

set_option maxHeartbeats 400000 in
set_option maxRecDepth 100000 in
theorem ref_at (k : Nat) (w : World) (hk : k ≤ 256) : Calls Try.prog 21 #[.int .i64 k] w fun e w' => e = .returned (.float .f64 (atW (k % 256))) ∧ w = w' := by
  by_cases h1 : k ≤ 128
  · rw [Nat.mod_eq_of_lt (by omega)]
    exact ref_at_low k w h1
  · by_cases h2 : k = 256
    · subst h2
      obtain ⟨q, hq⟩ : ∃ q, quarterW 0 = q := ⟨_, rfl⟩
      have hc := fun w => ref_quarter 0 w (by omega)
      have hz : atW (256 % 256) = q := by rw [← hq]; rfl
      rw [hz]
      rw [hq] at hc
      have HC := Lib.hid hc
      clear hc hq hz
      go_enter Try.func21, Try.ntmps21
      go_wp2_with (go_at_call 28; refine (HC.out _).mono ?_; rintro e w1 ⟨rfl, rfl⟩)
      go_ret
      exact ⟨rfl, rfl⟩
    · have hm : Int.tmod (k : Int) 256 = (k : Int) := by
        have := tmod_nat k 256
        rwa [Nat.mod_eq_of_lt (by omega)] at this
      have h0 : (128 : Int) < k := by omega
      have a4 : ((k : Int) - 128) = ((k - 128 : Nat) : Int) := by omega
      rw [Nat.mod_eq_of_lt (by omega), at_high (by omega) (by omega)]
      obtain ⟨q, hq⟩ : ∃ q, atW (k - 128) = q := ⟨_, rfl⟩
      have hc := fun w => ref_at_low (k - 128) w (by omega)
      rw [hq] at hc ⊢
      have HC := Lib.hid hc
      clear hc hq
      go_enter Try.func21, Try.ntmps21
      go_wp2_with (go_at_call 21; refine (HC.out _).mono ?_; rintro e w1 ⟨rfl, rfl⟩)
      go_ret
      exact ⟨rfl, rfl⟩

end Go.Proofs.Ytadaegnkclleaaa.VSine
