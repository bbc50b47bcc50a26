/- The table of sines, by turning a point; what the two functions that make it answer. -/
import Derived.Test.YtadaegnkclleaaaFlc
import Derived.Test.YtadaegnkclleaaaFd
import Derived.WalkKit
import Derived.WalkLawsBesides
import Derived.BigQuiet
import Derived.Lib.Hide
import Derived.Outline
import Derived.Test.YtadaegnkclleaaaProg
namespace Go.Proofs.Ytadaegnkclleaaa.VTab
open Go Go.RowKit Go.Proofs.Ytadaegnkclleaaa.Rnd Go.Proofs.Ytadaegnkclleaaa.Flo Go.Proofs.Ytadaegnkclleaaa.Flc
set_option linter.unusedVariables false

def tc : Nat := 4607179706000002317
def ts : Nat := 4582730748936808062
def fone : Nat := 4607182418800017408

def turned : Nat → Nat × Nat
  | 0 => (fone, 0)
  | n + 1 =>
    let z := turned n
    (((D.sub ((D.mul z.1 tc).getD 0) ((D.mul z.2 ts).getD 0)).getD 0), ((D.add ((D.mul z.1 ts).getD 0) ((D.mul z.2 tc).getD 0)).getD 0))

def stepOk (n : Nat) : Bool :=
  let z := turned n
  (D.mul z.1 tc).isSome && (D.mul z.2 ts).isSome && (D.mul z.1 ts).isSome && (D.mul z.2 tc).isSome && (D.sub ((D.mul z.1 tc).getD 0) ((D.mul z.2 ts).getD 0)).isSome && (D.add ((D.mul z.1 ts).getD 0) ((D.mul z.2 tc).getD 0)).isSome &&
    decide (rg z.2 ≤ fone)

theorem steps : (List.range 64).all stepOk = true := by decide +kernel

theorem of_some {o : Option Nat} (h : o.isSome = true) : o = some (o.getD 0) := by cases o <;> simp_all

/-- One step of the turning. -/
theorem step_at {n : Nat} (h : n < 64) : ∃ re im p q r s re' im', turned n = (re, im) ∧ D.mul re tc = some p ∧ D.mul im ts = some q ∧ D.mul re ts = some r ∧ D.mul im tc = some s ∧ D.sub p q = some re' ∧ D.add r s = some im' ∧ turned (n + 1) = (re', im') ∧ rg im ≤ fone := by
  have h1 := List.all_eq_true.1 steps n (List.mem_range.2 h)
  unfold stepOk at h1
  simp only [Bool.and_eq_true, decide_eq_true_eq] at h1
  obtain ⟨⟨⟨⟨⟨⟨a1, a2⟩, a3⟩, a4⟩, a5⟩, a6⟩, a7⟩ := h1
  exact ⟨_, _, _, _, _, _, _, _, rfl, of_some a1, of_some a2, of_some a3, of_some a4, of_some a5, of_some a6, rfl, a7⟩

def quarterW (k : Nat) : Nat := if k = 64 then fone else (turned k).2

theorem quarter_le {k : Nat} (h : k ≤ 64) : rg (quarterW k) ≤ fone := by
  unfold quarterW
  by_cases h1 : k = 64
  · rw [if_pos h1]; decide
  · rw [if_neg h1]
    obtain ⟨re, im, _, _, _, _, _, _, h2, _, _, _, _, _, _, _, h3⟩ := step_at (n := k) (by omega)
    rw [h2]
    exact h3

set_option maxHeartbeats 1000000 in
set_option maxRecDepth 100000 in
theorem ref_turned (k : Nat) (w : World) (hk : k < 64) : Calls Try.prog 32 #[.int .i64 k] w fun e w' => e = .returned (.tuple #[.float .f64 (turned k).1, .float .f64 (turned k).2]) ∧ w = w' := by
  go_enter Try.func32, Try.ntmps32
  go_wp2_with fail
  go_loop [4, 5, 6] (fun x y i => ∃ j : Nat, j ≤ k ∧ i = .int .i64 j ∧ x = .float .f64 (turned j).1 ∧ y = .float .f64 (turned j).2) (fun _ _ i => k - (intOf i).toNat)
  case atStart => exact ⟨0, Nat.zero_le _, rfl, rfl, rfl⟩
  case round =>
    obtain ⟨j, hj, rfl, rfl, rfl⟩ := hrel
    by_cases hlt : j < k
    · obtain ⟨re, im, p, q, r, s, re', im', h0, h1, h2, h3, h4, h5, h6, h7, _⟩ := step_at (n := j) (by omega)
      rw [h0]
      have HT := Lib.hid h7
      clear h0 h7
      have a1 : FloatKind.f64.format.mul re 4607179706000002317 = some p := h1
      have a2 : FloatKind.f64.format.mul im 4582730748936808062 = some q := h2
      have a3 : FloatKind.f64.format.mul re 4582730748936808062 = some r := h3
      have a4 : FloatKind.f64.format.mul im 4607179706000002317 = some s := h4
      have a5 : FloatKind.f64.format.sub p q = some re' := h5
      have a6 : FloatKind.f64.format.add r s = some im' := h6
      clear h1 h2 h3 h4 h5 h6
      go_wp2_with fail
      go_round
      case rel => exact ⟨j + 1, by omega, by go_num, by rw [HT.out], by rw [HT.out]⟩
      case measure => simp [intOf]; omega
    · obtain rfl : j = k := by omega
      go_wp2_with fail
      go_ret2
      exact ⟨rfl, rfl⟩

set_option maxHeartbeats 1000000 in
set_option maxRecDepth 100000 in
theorem ref_quarter (k : Nat) (w : World) (hk : k ≤ 64) : Calls Try.prog 28 #[.int .i64 k] w fun e w' => e = .returned (.float .f64 (quarterW k)) ∧ w = w' := by
  unfold quarterW
  by_cases h : k = 64
  · subst h
    go_enter Try.func28, Try.ntmps28
    go_wp2_with fail
    go_ret
    exact ⟨rfl, rfl⟩
  · have h1 : ((k : Int) == 64) = false := by rw [beq_eq_false_iff_ne]; omega
    rw [if_neg h]
    go_enter Try.func28, Try.ntmps28
    go_wp2_with (go_at_call 32; refine (ref_turned k _ (by omega)).mono ?_; rintro e w1 ⟨rfl, rfl⟩)
    go_ret
    exact ⟨rfl, rfl⟩

set_option maxHeartbeats 1000000 in
set_option maxRecDepth 100000 in
theorem quarter (k : Nat) (w : World) (hk : k ≤ 64) : Calls Try.prog 27 #[.int .u32 k] w fun e w' => e = .returned (.float .f64 (quarterW k)) ∧ w = w' := by
  unfold quarterW
  by_cases h : k = 64
  · subst h
    go_enter Try.func27, Try.ntmps27
    go_wp2_with fail
    go_ret
    exact ⟨rfl, rfl⟩
  · have h1 : ((k : Int) == 64) = false := by rw [beq_eq_false_iff_ne]; omega
    rw [if_neg h]
    go_enter Try.func27, Try.ntmps27
    go_wp2_with fail
    go_loop [3, 7] (fun z i => ∃ j : Nat, j ≤ k ∧ i = .int .u32 j ∧ z = .complex .f64 (turned j).1 (turned j).2) (fun _ i => k - (intOf i).toNat)
    case atStart => exact ⟨0, Nat.zero_le _, rfl, rfl⟩
    case round =>
      obtain ⟨j, hj, rfl, rfl⟩ := hrel
      by_cases hlt : j < k
      · obtain ⟨re, im, p, q, r, s, re', im', h0, h1, h2, h3, h4, h5, h6, h7, _⟩ := step_at (n := j) (by omega)
        rw [h0]
        have HT := Lib.hid h7
        clear h0 h7
        have hcm : ∀ (w : World) (t : TypeId), (binOp .mul t (.complex .f64 re im) (.complex .f64 4607179706000002317 4582730748936808062)).run Try.prog w = .ok (.complex .f64 re' im') w := fun w t => Fd.run_cmul w t h1 h2 h3 h4 h5 h6
        clear h1 h2 h3 h4 h5 h6
        go_wp2_with fail
        go_round
        case rel => exact ⟨j + 1, by omega, by go_num, by rw [HT.out]⟩
        case measure => simp [intOf]; omega
      · obtain rfl : j = k := by omega
        go_wp2_with fail
        go_ret
        exact ⟨rfl, rfl⟩

end Go.Proofs.Ytadaegnkclleaaa.VTab
