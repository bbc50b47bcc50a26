/- Sine, the program's and the reference's. -/
import Derived.Test.YtadaegnkclleaaaVSine
namespace Go.Proofs.Ytadaegnkclleaaa.VSin
open Go Go.RowKit Go.Proofs.Ytadaegnkclleaaa.Rnd Go.Proofs.Ytadaegnkclleaaa.Flo Go.Proofs.Ytadaegnkclleaaa.Flc Go.Proofs.Ytadaegnkclleaaa.VTab Go.Proofs.Ytadaegnkclleaaa.VSine
set_option linter.unusedVariables false

def c24 : Nat := 4715268809856909312
def ftwo : Nat := 4611686018427387904
def ffour : Nat := 4616189618054758400

theorem V_one : V fone = 2 ^ bias := by decide +kernel
theorem V_two : V ftwo = 2 * 2 ^ bias := by decide +kernel
theorem V_four : V ffour = 4 * 2 ^ bias := by decide +kernel
theorem V_c24 : V (rg c24) = 16777216 * 2 ^ bias ∧ rg c24 < top := by decide +kernel

theorem bound {x r : Nat} (h : rg x ≤ r) : V (rg x) ≤ V r := V_le.2 h

/-- What is between two of the table. -/
theorem between {a b m : Nat} (ha : rg a ≤ fone) (hb : rg b ≤ fone) (hm : m < 16777216) : ∃ d f p s, D.sub b a = some d ∧ D.div (FloatKind.f64.nearest m) c24 = some f ∧ D.mul d f = some p ∧ D.add a p = some s ∧ rg s ≤ ffour := by
  have t1 : fone < top := by decide
  have t2 : ftwo < top := by decide
  have t3 : ffour < top := by decide
  have v1 := bound ha
  have v2 := bound hb
  rw [V_one] at v1 v2
  obtain ⟨d, h1, h2⟩ := sub_le (x := b) (y := a) (r := ftwo) (by omega) (by omega) t2 (by rw [V_two]; omega)
  have hmi : ((m : Int)).natAbs = m := by omega
  obtain ⟨r1, r2⟩ := rg_int (m : Int) (by omega)
  rw [hmi] at r1
  obtain ⟨n1, n2⟩ := V_nr (n := m) (by omega)
  have hc := V_c24
  obtain ⟨f, h3, h4, _⟩ := div_leE bias_is (x := FloatKind.f64.nearest m) (y := c24) (r := fone) (t := 0) (by rw [r1]; exact n2) hc.2 (by decide) t1 (by rw [V_one, Nat.pow_zero, Nat.one_mul]) (by
    rw [r1, n1, hc.1, Nat.pow_zero, Nat.one_mul]
    exact Nat.mul_le_mul_right _ (by omega))
  obtain ⟨p, h5, h6, _⟩ := mul_leE bias_is (x := d) (y := f) (r := ftwo) (by omega) (by omega) t2 (by
    have e1 := bound h2
    have e2 := bound h4
    rw [V_one] at e2
    exact Nat.mul_le_mul e1 e2)
  obtain ⟨s, h7, h8⟩ := add_le (x := a) (y := p) (r := ffour) (by omega) (by omega) t3 (by
    have e1 := bound h6
    rw [V_two] at e1
    rw [V_four]
    omega)
  exact ⟨d, f, p, s, h1, h3, h5, h7, h8⟩

def sineW (ph : Nat) : Nat :=
  let a := atW (ph / 16777216 % 256)
  let b := atW ((ph / 16777216 + 1) % 256)
  (D.add a ((D.mul ((D.sub b a).getD 0) ((D.div (FloatKind.f64.nearest ((ph % 16777216 : Nat) : Int)) c24).getD 0)).getD 0)).getD 0

theorem sine_of {ph d f p s : Nat} (h1 : D.sub (atW ((ph / 16777216 + 1) % 256)) (atW (ph / 16777216 % 256)) = some d) (h2 : D.div (FloatKind.f64.nearest ((ph % 16777216 : Nat) : Int)) c24 = some f) (h3 : D.mul d f = some p)
    (h4 : D.add (atW (ph / 16777216 % 256)) p = some s) : sineW ph = s := by
  unfold sineW
  simp only [h1, h2, h3, h4, Option.getD_some]

set_option maxHeartbeats 400000 in
set_option maxRecDepth 100000 in
theorem sine_calls (ph : Nat) (w : World) (hp : ph < 4294967296) : Calls Try.prog 9 #[.int .u32 ph] w fun e w' => e = .returned (.float .f64 (sineW ph)) ∧ w = w' := by
  obtain ⟨d, f, p, s, h1, h2, h3, h4, _⟩ := between (a := atW (ph / 16777216 % 256)) (b := atW ((ph / 16777216 + 1) % 256)) (m := ph % 16777216) (at_le (by omega)) (at_le (by omega)) (by omega)
  rw [sine_of h1 h2 h3 h4]
  have hand : bits .and .u32 (ph : Int) 16777215 = ((ph % 16777216 : Nat) : Int) := and_mask ph 24 hp (by decide)
  have hsh : (ph : Int) / 16777216 = ((ph / 16777216 : Nat) : Int) := rfl
  obtain ⟨k, hk⟩ : ∃ k, ph / 16777216 = k := ⟨_, rfl⟩
  obtain ⟨m, hm⟩ : ∃ m, ph % 16777216 = m := ⟨_, rfl⟩
  have hk2 : k < 256 := by omega
  rw [hk] at h1 h4 hsh
  rw [hm] at h2 hand
  have A1 := Lib.hid (fun w => at_calls k w (by omega))
  obtain ⟨k1, hk1⟩ : ∃ k1, k + 1 = k1 := ⟨_, rfl⟩
  have a5 : (k : Int) + 1 = (k1 : Int) := by omega
  rw [hk1] at h1
  have A2 := Lib.hid (fun w => at_calls k1 w (by omega))
  obtain ⟨a, ha⟩ : ∃ a, atW (k % 256) = a := ⟨_, rfl⟩
  obtain ⟨b, hb⟩ : ∃ b, atW (k1 % 256) = b := ⟨_, rfl⟩
  rw [ha] at h1 h4 A1
  rw [hb] at h1 A2
  clear ha hb hk hm hk1
  have a1 : FloatKind.f64.format.sub b a = some d := h1
  have a2 : FloatKind.f64.format.div (FloatKind.f64.nearest (m : Int)) 4715268809856909312 = some f := h2
  have a3 : FloatKind.f64.format.mul d f = some p := h3
  have a4 : FloatKind.f64.format.add a p = some s := h4
  clear h1 h2 h3 h4
  obtain ⟨nm, hnm⟩ : ∃ nm, floatOfInt FloatKind.f64 (m : Int) = nm := ⟨_, rfl⟩
  have hnm2 : FloatKind.f64.nearest (m : Int) = nm := hnm
  rw [hnm2] at a2
  clear hnm2
  go_enter Try.func9, Try.ntmps9
  go_wp2_with fail
  refine (A1.out _).mono ?_
  rintro e w1 ⟨rfl, rfl⟩
  go_wp2_with fail
  refine (A2.out _).mono ?_
  rintro e w1 ⟨rfl, rfl⟩
  go_wp2_with fail
  go_ret
  exact ⟨rfl, rfl⟩

end Go.Proofs.Ytadaegnkclleaaa.VSin
