/- The reference's small ones: Abs, Sound, most. -/
import Derived.Test.YthdohdllpaijhaaRAlone
namespace Go.Proofs.Ythdohdllpaijhaa.RSnd
open Go Go.RowKit Go.Proofs.Ythdohdllpaijhaa.RMod Go.Proofs.Ythdohdllpaijhaa.RAlone Go.Proofs.Ythdohdllpaijhaa.Hp Go.Proofs.Ythdohdllpaijhaa.Rd
set_option linter.unusedVariables false

theorem abs_calls (n : Int) (w : World) (h0 : -127 ≤ n ∧ n ≤ 127) : Calls Try.prog 28 #[.int .i64 n] w fun e w' => e = .returned (.int .i64 (max n (-n))) ∧ w' = w := by
  obtain ⟨h1, h2⟩ := h0
  by_cases hn : n < 0
  · have e : max n (-n) = -n := by omega
    rw [e]
    clear e
    go_enter Try.func28, Try.ntmps28
    go_wp2
    go_ret
    exact ⟨by first | rfl | (congr 1; go_num), rfl⟩
  · have e : max n (-n) = n := by omega
    rw [e]
    clear e
    go_enter Try.func28, Try.ntmps28
    go_wp2
    go_ret
    exact ⟨rfl, rfl⟩

theorem apart_abs (a b : Int) : max (a - b) (-(a - b)) = apartZ a b := by unfold apartZ; omega

set_option maxHeartbeats 1000000 in
theorem sound_calls (a b : Int) (w : World) (ha : 0 ≤ a ∧ a ≤ 127) (hb : 0 ≤ b ∧ b ≤ 127) : Calls Try.prog 27 #[.int .i64 a, .int .i64 b] w fun e w' => e = .returned (.int .i64 (apartZ a b % 12)) ∧ w' = w := by
  have A := Lib.hid (fun w' => abs_calls (a - b) w' (by omega))
  rw [apart_abs] at A
  obtain ⟨d0, d1⟩ := apart_le ha hb
  obtain ⟨z, hz⟩ : ∃ z, apartZ a b = z := ⟨_, rfl⟩
  rw [hz] at A d0 d1 ⊢
  clear hz
  obtain ⟨a0, a1⟩ := ha
  obtain ⟨b0, b1⟩ := hb
  have ht : Int.tmod z 12 = z % 12 := Int.tmod_eq_emod_of_nonneg d0
  go_enter Try.func27, Try.ntmps27
  go_wp2_with (go_at_call 28; refine (A.out _).mono ?_; rintro e w' ⟨rfl, rfl⟩)
  go_ret
  exact ⟨rfl, rfl⟩

theorem most_calls (n : Nat) (w : World) (h : n ≤ 2000000000) : Calls Try.prog 30 #[.int .i64 (n : Int)] w fun e w' => e = .returned (.int .i64 ((min n 1000000000 : Nat) : Int)) ∧ w' = w := by
  by_cases hn : 1000000000 < n
  · have e : min n 1000000000 = 1000000000 := by omega
    rw [e]
    clear e
    go_enter Try.func30, Try.ntmps30
    go_wp2
    go_ret
    exact ⟨rfl, rfl⟩
  · have e : min n 1000000000 = n := by omega
    rw [e]
    clear e
    go_enter Try.func30, Try.ntmps30
    go_wp2
    go_ret
    exact ⟨rfl, rfl⟩
end Go.Proofs.Ythdohdllpaijhaa.RSnd
