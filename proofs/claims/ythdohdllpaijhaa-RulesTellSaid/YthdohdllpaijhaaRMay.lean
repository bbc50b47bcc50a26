/- May: the walk. -/
import Derived.Test.YthdohdllpaijhaaRAlone
namespace Go.Proofs.Ythdohdllpaijhaa.RMay
open Go Go.RowKit Go.Proofs.Ythdohdllpaijhaa.RMod Go.Proofs.Ythdohdllpaijhaa.RAlone Go.Proofs.Ythdohdllpaijhaa.Hp Go.Proofs.Ythdohdllpaijhaa.Rd
set_option linter.unusedVariables false
set_option linter.unusedSimpArgs false

set_option maxHeartbeats 1000000 in
set_option maxRecDepth 100000 in
theorem may_calls (c key : Int) (w : World) (hc : 0 ≤ c ∧ c ≤ 4095) (hk : 0 ≤ key ∧ key ≤ 127) : Calls Try.prog 7 #[.int .i64 c, .int .i64 key] w fun e w' => e = .returned (.bool (mayB c key)) ∧ w' = w := by
  obtain ⟨c0, c1⟩ := hc
  obtain ⟨k0, k1⟩ := hk
  obtain ⟨q, hq⟩ : ∃ q : Nat, key % 12 = q := ⟨(key % 12).toNat, by omega⟩
  have hq12 : q < 12 := by omega
  have ht : Int.tmod key 12 = (q : Int) := by rw [Int.tmod_eq_emod_of_nonneg k0, hq]
  have HM : Hid (mayB c key = decide (c / 2 ^ q % 2 = 1)) := by unfold Hid mayB; rw [hq]; rfl
  have HC0 : Hid (∀ i : Nat, 0 ≤ c / 2 ^ i ∧ c / 2 ^ i ≤ 4095) := fun i => by
    obtain ⟨n, rfl⟩ : ∃ n : Nat, c = n := ⟨c.toNat, by omega⟩
    have e : ((n : Int) / 2 ^ i) = ((n / 2 ^ i : Nat) : Int) := by rw [Int.natCast_ediv, Int.natCast_pow]; rfl
    rw [e]
    have := Nat.div_le_self n (2 ^ i)
    generalize n / 2 ^ i = z at this ⊢
    omega
  have HC1 : Hid (∀ i : Nat, c / 2 ^ (i + 1) = c / 2 ^ i / 2) := fun i => by
    rw [Int.pow_succ, Int.ediv_ediv_of_nonneg (Int.pow_nonneg (show (0 : Int) ≤ 2 by omega))]
  have HCZ : Hid (c / 2 ^ 0 = c) := by unfold Hid; simp
  obtain ⟨R, hR⟩ : ∃ R, mayB c key = R := ⟨_, rfl⟩
  rw [hR] at HM ⊢
  obtain ⟨f, hf⟩ : ∃ f : Nat → Int, (fun i => c / 2 ^ i) = f := ⟨_, rfl⟩
  have hf' : ∀ i, c / 2 ^ i = f i := fun i => by rw [← hf]
  simp only [hf'] at HM HC0 HC1 HCZ
  clear hR hf hf'
  go_enter Try.func7, Try.ntmps7
  go_wp2_with fail
  have hz := HCZ.out
  go_loopw [0, 5] (fun v0 v5 wr => ∃ i : Nat, i ≤ q ∧ v5 = .int .i64 (i : Int) ∧ v0 = .int .i64 (f i) ∧ wr = w) (fun _ v5 _ => q - (intOf v5).toNat)
  case atStart => exact ⟨0, Nat.zero_le _, rfl, by rw [hz], rfl⟩
  case round =>
    clear hz
    obtain ⟨i, hi, rfl, rfl, rfl⟩ := hrel
    obtain ⟨x0, x1⟩ := HC0.out i
    have HN := Lib.hid (HC1.out i)
    obtain ⟨x, hx⟩ : ∃ x, f i = x := ⟨_, rfl⟩
    have HX := Lib.hid hx
    rw [hx] at x0 x1 HN
    simp only [hx]
    clear hx
    by_cases hend : i = q
    · have HR : Hid (R = decide (x % 2 = 1)) := by unfold Hid; rw [HM.out, ← hend, HX.out]
      have ht2 : Int.tmod x 2 = x % 2 := Int.tmod_eq_emod_of_nonneg x0
      subst hend
      go_wp2_with fail
      go_ret
      refine ⟨?_, rfl⟩
      rw [HR.out]
      rfl
    · have hlt : i < q := by omega
      have hd : Int.tdiv x 2 = x / 2 := Int.tdiv_eq_ediv_of_nonneg x0
      go_wp2_with fail
      exact ⟨⟨i + 1, by omega, rfl, by rw [HN.out], trivial⟩, by simp only [intOf]; omega⟩

end Go.Proofs.Ythdohdllpaijhaa.RMay
