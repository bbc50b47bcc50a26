/- The reference's Sine. -/
import Derived.Test.YtadaegnkclleaaaVSin
namespace Go.Proofs.Ytadaegnkclleaaa.VRsin
open Go Go.RowKit Go.Proofs.Ytadaegnkclleaaa.Rnd Go.Proofs.Ytadaegnkclleaaa.Flo Go.Proofs.Ytadaegnkclleaaa.Flc Go.Proofs.Ytadaegnkclleaaa.VTab Go.Proofs.Ytadaegnkclleaaa.VSine Go.Proofs.Ytadaegnkclleaaa.VSin
set_option linter.unusedVariables false

set_option maxHeartbeats 400000 in
set_option maxRecDepth 100000 in
theorem ref_sine (ph : Nat) (w : World) (hp : ph < 4294967296) : Calls Try.prog 10 #[.int .u32 ph] w fun e w' => e = .returned (.float .f64 (sineW ph)) ∧ w = w' := by
  obtain ⟨d, f, p, s, h1, h2, h3, h4, _⟩ := between (a := atW (ph / 16777216 % 256)) (b := atW ((ph / 16777216 + 1) % 256)) (m := ph % 16777216) (at_le (by omega)) (at_le (by omega)) (by omega)
  rw [sine_of h1 h2 h3 h4]
  have hand : Int.tmod (ph : Int) 16777216 = ((ph % 16777216 : Nat) : Int) := tmod_nat ph 16777216
  have hsh : Int.tdiv (ph : Int) 16777216 = ((ph / 16777216 : Nat) : Int) := rfl
  obtain ⟨k, hk⟩ : ∃ k, ph / 16777216 = k := ⟨_, rfl⟩
  obtain ⟨m, hm⟩ : ∃ m, ph % 16777216 = m := ⟨_, rfl⟩
  have hk2 : k < 256 := by omega
  have hm2 : m < 16777216 := by omega
  rw [hk] at h1 h4 hsh
  rw [hm] at h2 hand
  have A1 := Lib.hid (fun w => ref_at k w (by omega))
  obtain ⟨k1, hk1⟩ : ∃ k1, k + 1 = k1 := ⟨_, rfl⟩
  have a5 : (k : Int) + 1 = (k1 : Int) := by omega
  rw [hk1] at h1
  have A2 := Lib.hid (fun w => ref_at k1 w (by omega))
  obtain ⟨a, ha⟩ : ∃ a, atW (k % 256) = a := ⟨_, rfl⟩
  obtain ⟨b, hb⟩ : ∃ b, atW (k1 % 256) = b := ⟨_, rfl⟩
  rw [ha] at h1 h4 A1
  rw [hb] at h1 A2
  clear ha hb hk hm hk1
  have a1 : FloatKind.f64.format.sub b a = some d := h1
  have a2 : FloatKind.f64.format.div (FloatKind.f64.nearest (m : Int)) 4715268809856909312 = some f := h2
  have a3 : FloatKind.f64.format.mul d f = some p := h3
  have a4 : FloatKind.f64.format.add a p = some s := h4
  clear h1 h2 h3 h4
  obtain ⟨nm, hnm⟩ : ∃ nm, floatOfInt FloatKind.f64 (m : Int) = nm := ⟨_, rfl⟩
  have hnm2 : FloatKind.f64.nearest (m : Int) = nm := hnm
  rw [hnm2] at a2
  clear hnm2
  go_enter Try.func10, Try.ntmps10
  go_wp2_with fail
  refine (A1.out _).mono ?_
  rintro e w1 ⟨rfl, rfl⟩
  go_wp2_with fail
  refine (A2.out _).mono ?_
  rintro e w1 ⟨rfl, rfl⟩
  go_wp2_with fail
  go_ret
  exact ⟨rfl, rfl⟩

end Go.Proofs.Ytadaegnkclleaaa.VRsin
