/- Twelve bits, moved round: plain. -/
import Derived.Test.YthdohdllpaijhaaRMov
namespace Go.Proofs.Ythdohdllpaijhaa.RBits
set_option linter.unusedVariables false
set_option linter.unusedSimpArgs false

def tot (e : Nat → Nat) (r : Nat) : Nat :=
  e 0 * 2 ^ ((0 + r) % 12) + e 1 * 2 ^ ((1 + r) % 12) + e 2 * 2 ^ ((2 + r) % 12) + e 3 * 2 ^ ((3 + r) % 12) + e 4 * 2 ^ ((4 + r) % 12) + e 5 * 2 ^ ((5 + r) % 12) +
  e 6 * 2 ^ ((6 + r) % 12) + e 7 * 2 ^ ((7 + r) % 12) + e 8 * 2 ^ ((8 + r) % 12) + e 9 * 2 ^ ((9 + r) % 12) + e 10 * 2 ^ ((10 + r) % 12) + e 11 * 2 ^ ((11 + r) % 12)

set_option maxHeartbeats 8000000 in
theorem core (e : Nat → Nat) (he : ∀ i, e i ≤ 1) (r j : Nat) (hr : r < 12) (hj : j < 12) : tot e r ≤ 4095 ∧ tot e r / 2 ^ ((j + r) % 12) % 2 = e j := by
  have h0 := he 0
  have h1 := he 1
  have h2 := he 2
  have h3 := he 3
  have h4 := he 4
  have h5 := he 5
  have h6 := he 6
  have h7 := he 7
  have h8 := he 8
  have h9 := he 9
  have h10 := he 10
  have h11 := he 11
  clear he
  unfold tot
  have hr' : r = 0 ∨ r = 1 ∨ r = 2 ∨ r = 3 ∨ r = 4 ∨ r = 5 ∨ r = 6 ∨ r = 7 ∨ r = 8 ∨ r = 9 ∨ r = 10 ∨ r = 11 := by omega
  have hj' : j = 0 ∨ j = 1 ∨ j = 2 ∨ j = 3 ∨ j = 4 ∨ j = 5 ∨ j = 6 ∨ j = 7 ∨ j = 8 ∨ j = 9 ∨ j = 10 ∨ j = 11 := by omega
  clear hr hj
  rcases hr' with rfl | rfl | rfl | rfl | rfl | rfl | rfl | rfl | rfl | rfl | rfl | rfl <;>
  rcases hj' with rfl | rfl | rfl | rfl | rfl | rfl | rfl | rfl | rfl | rfl | rfl | rfl <;>
  simp only [Nat.reduceAdd, Nat.reduceMod, Nat.reducePow, Nat.zero_add] <;> omega

open Go Go.Proofs.Ythdohdllpaijhaa.RMod Go.Proofs.Ythdohdllpaijhaa.RMov

def sumTo (e : Nat → Nat) (r : Nat) : Nat → Nat
  | 0 => 0
  | k + 1 => sumTo e r k + e k * 2 ^ ((k + r) % 12)

theorem sumTo_tot (e : Nat → Nat) (r : Nat) : sumTo e r 12 = tot e r := by
  simp only [sumTo, tot, Nat.zero_add]

def eB (c : Int) (i : Nat) : Nat := if mayB c (i : Int) = true then 1 else 0

theorem bits_sum (c b : Int) (hb : 0 ≤ b) : ∀ k, bitsUp c b k = (sumTo (eB c) (b % 12).toNat k : Nat)
  | 0 => rfl
  | k + 1 => by
    unfold bitsUp sumTo
    rw [bits_sum c b hb k]
    have e : (((k : Int) + b) % 12).toNat = (k + (b % 12).toNat) % 12 := by omega
    rw [e]
    generalize (k + (b % 12).toNat) % 12 = q
    unfold eB
    split
    · rw [Nat.one_mul, Int.natCast_add, Int.natCast_pow]; rfl
    · rw [Nat.zero_mul]; rfl

theorem may_mod (c k : Int) (hk : 0 ≤ k) : mayB c k = mayB c ((k % 12).toNat : Int) := by
  unfold mayB
  have : (((k % 12).toNat : Nat) : Int) % 12 = k % 12 := by omega
  rw [this]

theorem bits_moved {c b : Int} (hb : 0 ≤ b) : 0 ≤ bitsUp c b 12 ∧ bitsUp c b 12 ≤ 4095 ∧ ∀ k, 0 ≤ k → mayB (bitsUp c b 12) (k + b) = mayB c k := by
  have he : ∀ i, eB c i ≤ 1 := fun i => by unfold eB; split <;> omega
  rw [bits_sum c b hb 12, sumTo_tot]
  have h0 := (core (eB c) he (b % 12).toNat 0 (by omega) (by omega)).1
  refine ⟨by omega, by omega, fun k hk => ?_⟩
  have h1 := (core (eB c) he (b % 12).toNat (k % 12).toNat (by omega) (by omega)).2
  rw [may_mod c k hk]
  have eq1 : ((k + b) % 12).toNat = ((k % 12).toNat + (b % 12).toNat) % 12 := by omega
  generalize tot (eB c) (b % 12).toNat = z at h1 h0 ⊢
  unfold mayB at *
  rw [eq1]
  generalize ((k % 12).toNat + (b % 12).toNat) % 12 = q at h1 ⊢
  have e2 : ((z : Int) / 2 ^ q) = ((z / 2 ^ q : Nat) : Int) := by rw [Int.natCast_ediv, Int.natCast_pow]; rfl
  rw [e2]
  generalize z / 2 ^ q = y at h1 ⊢
  have hm : ∀ i : Nat, (eB c i = 1 ↔ mayB c (i : Int) = true) := fun i => by unfold eB; split <;> simp_all
  have h3 := hm (k % 12).toNat
  unfold mayB at h3
  rw [Bool.eq_iff_iff, ← h3, decide_eq_true_eq]
  omega

end Go.Proofs.Ythdohdllpaijhaa.RBits
