/- Shape, the program's and the reference's. -/
import Derived.Test.YtadaegnkclleaaaVRsin
namespace Go.Proofs.Ytadaegnkclleaaa.VShape
open Go Go.RowKit Go.Proofs.Ytadaegnkclleaaa.Rnd Go.Proofs.Ytadaegnkclleaaa.Flo Go.Proofs.Ytadaegnkclleaaa.Flc Go.Proofs.Ytadaegnkclleaaa.VTab Go.Proofs.Ytadaegnkclleaaa.VSine Go.Proofs.Ytadaegnkclleaaa.VSin Go.Proofs.Ytadaegnkclleaaa.VRsin
set_option linter.unusedVariables false

def c31 : Nat := 4746794007248502784
def c30 : Nat := 4742290407621132288
def fminus : Nat := 13830554455654793216
theorem V_c31 : V (rg c31) = 2147483648 * 2 ^ bias ∧ rg c31 < top := by decide +kernel
theorem V_c30 : V (rg c30) = 1073741824 * 2 ^ bias ∧ rg c30 < top := by decide +kernel

/-- A whole number by one that is no smaller: within one. -/
theorem whole_div {z : Int} {n c : Nat} (hz : z.natAbs ≤ n) (hn : n < 2 ^ 53) (hc : V (rg c) = n * 2 ^ bias ∧ rg c < top) (h0 : 0 < rg c) : ∃ q, D.div (FloatKind.f64.nearest z) c = some q ∧ rg q ≤ fone := by
  have t1 : fone < top := by decide
  obtain ⟨r1, r2⟩ := rg_int z (by omega)
  obtain ⟨n1, n2⟩ := V_nr (n := z.natAbs) (by omega)
  obtain ⟨f, h3, h4, _⟩ := div_leE bias_is (x := FloatKind.f64.nearest z) (y := c) (r := fone) (t := 0) (by rw [r1]; exact n2) hc.2 h0 t1 (by rw [V_one, Nat.pow_zero, Nat.one_mul]) (by
    rw [r1, n1, hc.1, Nat.pow_zero, Nat.one_mul]
    exact Nat.mul_le_mul_right _ hz)
  exact ⟨f, h3, h4⟩

def sawZ (ph : Nat) : Int := if ph < 2147483648 then ph else (ph : Int) - 4294967296
def triZ (ph : Nat) : Int := if ph ≤ 1073741824 then ph else if ph ≤ 3221225472 then 2147483648 - (ph : Int) else (ph : Int) - 4294967296

def shapeW (k : Int) (ph : Nat) : Nat :=
  if k = 1 then sineW ph else if k = 2 then (D.div (FloatKind.f64.nearest (sawZ ph)) c31).getD 0 else if k = 3 then (if ph < 2147483648 then fone else fminus)
  else if k = 4 then (D.div (FloatKind.f64.nearest (triZ ph)) c30).getD 0 else 0
def shapeE (k : Int) : Int := if k = 1 ∨ k = 2 ∨ k = 3 ∨ k = 4 then 0 else 1

theorem saw_le (ph : Nat) (hp : ph < 4294967296) : (sawZ ph).natAbs ≤ 2147483648 := by unfold sawZ; split <;> omega
theorem tri_le (ph : Nat) (hp : ph < 4294967296) : (triZ ph).natAbs ≤ 1073741824 := by unfold triZ; split <;> (try split) <;> omega

theorem saw_some (ph : Nat) (hp : ph < 4294967296) : ∃ q, D.div (FloatKind.f64.nearest (sawZ ph)) c31 = some q ∧ rg q ≤ fone := whole_div (saw_le ph hp) (by decide) V_c31 (by decide)
theorem tri_some (ph : Nat) (hp : ph < 4294967296) : ∃ q, D.div (FloatKind.f64.nearest (triZ ph)) c30 = some q ∧ rg q ≤ fone := whole_div (tri_le ph hp) (by decide) V_c30 (by decide)

theorem wrap_saw (ph : Nat) (hp : ph < 4294967296) : IntKind.i32.wrap (ph : Int) = sawZ ph := by
  unfold IntKind.wrap sawZ
  simp [IntKind.signed, IntKind.bits]
  split <;> split <;> omega

theorem wrap_u32 (n : Nat) : IntKind.u32.wrap (n : Int) = ((n % 4294967296 : Nat) : Int) := by
  unfold IntKind.wrap
  simp [IntKind.signed, IntKind.bits]

/-- The program's way to the triangle. -/
theorem tri_way (ph : Nat) (hp : ph < 4294967296) : (0 ≤ sawZ ((ph + 1073741824) % 4294967296) ∧ sawZ ((ph + 1073741824) % 4294967296) - 1073741824 = triZ ph) ∨ (sawZ ((ph + 1073741824) % 4294967296) < 0 ∧ -(sawZ ((ph + 1073741824) % 4294967296)) - 1073741824 = triZ ph) := by
  unfold sawZ triZ
  split <;> split <;> (try split) <;> omega

set_option maxHeartbeats 400000 in
set_option maxRecDepth 100000 in
theorem shape_calls (k : Int) (ph : Nat) (w : World) (hp : ph < 4294967296) : Calls Try.prog 11 #[.int .i64 k, .int .u32 ph] w fun e w' => e = .returned (.tuple #[.float .f64 (shapeW k ph), .int .i64 (shapeE k)]) ∧ w = w' := by
  unfold shapeW shapeE
  by_cases k1 : k = 1
  · subst k1
    have A := Lib.hid (fun w => sine_calls ph w hp)
    simp only [if_pos, true_or]
    obtain ⟨q, hq⟩ : ∃ q, sineW ph = q := ⟨_, rfl⟩
    rw [hq] at A ⊢
    clear hq
    go_enter Try.func11, Try.ntmps11
    go_wp2_with (go_at_call 9; refine (A.out _).mono ?_; rintro e w1 ⟨rfl, rfl⟩)
    go_ret2
    exact ⟨rfl, rfl⟩
  by_cases k2 : k = 2
  · subst k2
    simp only [if_pos, if_neg k1, true_or, or_true]
    obtain ⟨q, h1, _⟩ := saw_some ph hp
    have a1 : FloatKind.f64.format.div (FloatKind.f64.nearest (sawZ ph)) 4746794007248502784 = some q := h1
    rw [h1, Option.getD_some]
    have a2 := wrap_saw ph hp
    obtain ⟨nm, hnm⟩ : ∃ nm, floatOfInt FloatKind.f64 (sawZ ph) = nm := ⟨_, rfl⟩
    have hnm2 : FloatKind.f64.nearest (sawZ ph) = nm := hnm
    rw [hnm2] at a1
    generalize sawZ ph = z at *
    clear hnm2 h1
    go_enter Try.func11, Try.ntmps11
    go_wp2_with fail
    go_ret2
    exact ⟨rfl, rfl⟩
  by_cases k3 : k = 3
  · subst k3
    simp only [if_pos, if_neg k1, if_neg k2, true_or, or_true]
    by_cases hh : ph < 2147483648
    · have a1 : (ph : Int) < 2147483648 := by omega
      rw [if_pos hh]
      go_enter Try.func11, Try.ntmps11
      go_wp2_with fail
      go_ret2
      exact ⟨rfl, rfl⟩
    · have a1 : ¬ (ph : Int) < 2147483648 := by omega
      rw [if_neg hh]
      go_enter Try.func11, Try.ntmps11
      go_wp2_with fail
      go_ret2
      exact ⟨rfl, rfl⟩
  by_cases k4 : k = 4
  · subst k4
    simp only [if_pos, if_neg k1, if_neg k2, if_neg k3, or_true]
    obtain ⟨q, h1, _⟩ := tri_some ph hp
    have a1 : FloatKind.f64.format.div (FloatKind.f64.nearest (triZ ph)) 4742290407621132288 = some q := h1
    rw [h1, Option.getD_some]
    have a2 : IntKind.u32.wrap ((ph : Int) + 1073741824) = (((ph + 1073741824) % 4294967296 : Nat) : Int) := by
      rw [← wrap_u32]; rfl
    have a3 := wrap_saw ((ph + 1073741824) % 4294967296) (by omega)
    have a4 := tri_way ph hp
    have b1 := saw_le ((ph + 1073741824) % 4294967296) (by omega)
    obtain ⟨nm, hnm⟩ : ∃ nm, floatOfInt FloatKind.f64 (triZ ph) = nm := ⟨_, rfl⟩
    have hnm2 : FloatKind.f64.nearest (triZ ph) = nm := hnm
    rw [hnm2] at a1
    have b2 := tri_le ph hp
    generalize triZ ph = z at *
    generalize sawZ ((ph + 1073741824) % 4294967296) = y at *
    generalize (ph + 1073741824) % 4294967296 = x at *
    clear hnm2 h1
    have b3 : -2147483648 ≤ y ∧ y ≤ 2147483648 := by omega
    obtain ⟨b3, b4⟩ := b3
    clear b1 b2
    rcases a4 with ⟨a4, a5⟩ | ⟨a4, a5⟩
    · have a6 : ¬ y < -y := by omega
      go_enter Try.func11, Try.ntmps11
      go_wp2_with fail
      go_ret2
      exact ⟨rfl, rfl⟩
    · have a6 : y < -y := by omega
      obtain ⟨u, hu⟩ : ∃ u, -y = u := ⟨_, rfl⟩
      have b5 : -9223372036854775808 ≤ u := by omega
      have b6 : u ≤ 9223372036854775807 := by omega
      rw [hu] at a5 a6
      go_enter Try.func11, Try.ntmps11
      go_wp2_with fail
      go_ret2
      exact ⟨rfl, rfl⟩
  · simp only [k1, k2, k3, k4, or_false, if_false]
    go_enter Try.func11, Try.ntmps11
    go_wp2_with fail
    go_ret2
    exact ⟨rfl, rfl⟩

set_option maxHeartbeats 400000 in
set_option maxRecDepth 100000 in
theorem ref_shape (k : Int) (ph : Nat) (w : World) (hp : ph < 4294967296) : Calls Try.prog 12 #[.int .i64 k, .int .u32 ph] w fun e w' => e = .returned (.tuple #[.float .f64 (shapeW k ph), .int .i64 (shapeE k)]) ∧ w = w' := by
  unfold shapeW shapeE
  by_cases k1 : k = 1
  · subst k1
    have A := Lib.hid (fun w => ref_sine ph w hp)
    simp only [if_pos, true_or]
    obtain ⟨q, hq⟩ : ∃ q, sineW ph = q := ⟨_, rfl⟩
    rw [hq] at A ⊢
    clear hq
    go_enter Try.func12, Try.ntmps12
    go_wp2_with (go_at_call 10; refine (A.out _).mono ?_; rintro e w1 ⟨rfl, rfl⟩)
    go_ret2
    exact ⟨rfl, rfl⟩
  by_cases k2 : k = 2
  · subst k2
    simp only [if_pos, if_neg k1, true_or, or_true]
    obtain ⟨q, h1, _⟩ := saw_some ph hp
    have a1 : FloatKind.f64.format.div (FloatKind.f64.nearest (sawZ ph)) 4746794007248502784 = some q := h1
    rw [h1, Option.getD_some]
    have a2 : sawZ ph = if ph < 2147483648 then (ph : Int) else (ph : Int) - 4294967296 := rfl
    obtain ⟨nm, hnm⟩ : ∃ nm, floatOfInt FloatKind.f64 (sawZ ph) = nm := ⟨_, rfl⟩
    have hnm2 : FloatKind.f64.nearest (sawZ ph) = nm := hnm
    rw [hnm2] at a1
    generalize sawZ ph = z at *
    clear hnm2 h1
    by_cases hh : ph < 2147483648
    · have a3 : ¬ (2147483648 : Int) ≤ ph := by omega
      rw [if_pos hh] at a2
      subst a2
      go_enter Try.func12, Try.ntmps12
      go_wp2_with fail
      go_ret2
      exact ⟨rfl, rfl⟩
    · have a3 : (2147483648 : Int) ≤ ph := by omega
      rw [if_neg hh] at a2
      replace a2 := a2.symm
      go_enter Try.func12, Try.ntmps12
      go_wp2_with fail
      go_ret2
      exact ⟨rfl, rfl⟩
  by_cases k3 : k = 3
  · subst k3
    simp only [if_pos, if_neg k1, if_neg k2, true_or, or_true]
    by_cases hh : ph < 2147483648
    · have a1 : (ph : Int) < 2147483648 := by omega
      rw [if_pos hh]
      go_enter Try.func12, Try.ntmps12
      go_wp2_with fail
      go_ret2
      exact ⟨rfl, rfl⟩
    · have a1 : ¬ (ph : Int) < 2147483648 := by omega
      rw [if_neg hh]
      go_enter Try.func12, Try.ntmps12
      go_wp2_with fail
      go_ret2
      exact ⟨rfl, rfl⟩
  by_cases k4 : k = 4
  · subst k4
    simp only [if_pos, if_neg k1, if_neg k2, if_neg k3, or_true]
    obtain ⟨q, h1, _⟩ := tri_some ph hp
    have a1 : FloatKind.f64.format.div (FloatKind.f64.nearest (triZ ph)) 4742290407621132288 = some q := h1
    rw [h1, Option.getD_some]
    have a2 : triZ ph = if ph ≤ 1073741824 then (ph : Int) else if ph ≤ 3221225472 then 2147483648 - (ph : Int) else (ph : Int) - 4294967296 := rfl
    obtain ⟨nm, hnm⟩ : ∃ nm, floatOfInt FloatKind.f64 (triZ ph) = nm := ⟨_, rfl⟩
    have hnm2 : FloatKind.f64.nearest (triZ ph) = nm := hnm
    rw [hnm2] at a1
    generalize triZ ph = z at *
    clear hnm2 h1
    by_cases hh : ph ≤ 1073741824
    · have a3 : (ph : Int) ≤ 1073741824 := by omega
      rw [if_pos hh] at a2
      subst a2
      go_enter Try.func12, Try.ntmps12
      go_wp2_with fail
      go_ret2
      exact ⟨rfl, rfl⟩
    by_cases hh2 : ph ≤ 3221225472
    · have a3 : ¬ (ph : Int) ≤ 1073741824 := by omega
      have a4 : (ph : Int) ≤ 3221225472 := by omega
      rw [if_neg hh, if_pos hh2] at a2
      replace a2 := a2.symm
      go_enter Try.func12, Try.ntmps12
      go_wp2_with fail
      go_ret2
      exact ⟨rfl, rfl⟩
    · have a3 : ¬ (ph : Int) ≤ 1073741824 := by omega
      have a4 : ¬ (ph : Int) ≤ 3221225472 := by omega
      rw [if_neg hh, if_neg hh2] at a2
      replace a2 := a2.symm
      go_enter Try.func12, Try.ntmps12
      go_wp2_with fail
      go_ret2
      exact ⟨rfl, rfl⟩
  · simp only [k1, k2, k3, k4, or_false, if_false]
    go_enter Try.func12, Try.ntmps12
    go_wp2_with fail
    go_ret2
    exact ⟨rfl, rfl⟩

end Go.Proofs.Ytadaegnkclleaaa.VShape
