/- VoiceShapes: it returns true. -/
import Derived.Test.YtadaegnkclleaaaVStepF
namespace Go.Proofs.Ytadaegnkclleaaa.VShapes
open Go Go.RowKit Go.Proofs.Ytadaegnkclleaaa.VSin Go.Proofs.Ytadaegnkclleaaa.VSine Go.Proofs.Ytadaegnkclleaaa.VRsin Go.Proofs.Ytadaegnkclleaaa.VShape Go.Proofs.Ytadaegnkclleaaa.VStep Go.Proofs.Ytadaegnkclleaaa.VStepF
set_option linter.unusedVariables false

@[go_sem] theorem bits_run (x : Nat) (w : World) : (callFunc 19 #[.float .f64 x]).run Try.prog w = .ok (.value (.int .u64 x)) w := by
  rw [run_callFunc_extern (e := Extern.MathFloatBits.float64bits) Try.func19 (by kernel_rfl) (by kernel_rfl) (by kernel_rfl) (by kernel_rfl)]
  rfl

set_option maxHeartbeats 400000 in
theorem same_calls (x : Nat) (w : World) : Calls Try.prog 8 #[.float .f64 x, .float .f64 x] w fun e w' => e = .returned (.bool true) ∧ w = w' := by
  have hb := bits_run
  go_enter Try.func8, Try.ntmps8
  go_wp2
  go_ret
  exact ⟨rfl, rfl⟩

set_option maxHeartbeats 800000 in
set_option maxRecDepth 100000 in
theorem law (k : Int) (ph : Nat) (h : Nat) (r : Int) (w : World) (hp : ph < 4294967296) : Calls Try.prog 3 #[.int .i64 k, .int .u32 ph, .float .f64 h, .int .i64 r] w fun e w' => e = .returned (.bool true) ∧ w = w' := by
  obtain ⟨s, hs⟩ : ∃ s, sineW ph = s := ⟨_, rfl⟩
  obtain ⟨y, hy⟩ : ∃ y, shapeW k ph = y := ⟨_, rfl⟩
  obtain ⟨e1, he1⟩ : ∃ e1, shapeE k = e1 := ⟨_, rfl⟩
  obtain ⟨n, e2, hn, g1, g2⟩ := gives_same h r
  have A1 := Lib.hid (fun w => sine_calls ph w hp)
  have A2 := Lib.hid (fun w => ref_sine ph w hp)
  have A3 := Lib.hid (fun w => shape_calls k ph w hp)
  have A4 := Lib.hid (fun w => ref_shape k ph w hp)
  have A5 := Lib.hid g1
  have A6 := Lib.hid g2
  rw [hs] at A1 A2
  rw [hy, he1] at A3 A4
  clear hs hy he1 g1 g2
  go_enter Try.func3, Try.ntmps3
  go_wp2_with first
    | (go_at_call 9; refine (A1.out _).mono ?_; rintro e w1 ⟨rfl, rfl⟩)
    | (go_at_call 10; refine (A2.out _).mono ?_; rintro e w1 ⟨rfl, rfl⟩)
    | (go_at_call 8; refine (same_calls _ _).mono ?_; rintro e w1 ⟨rfl, rfl⟩)
    | (go_at_call 11; refine (A3.out _).mono ?_; rintro e w1 ⟨rfl, rfl⟩)
    | (go_at_call 12; refine (A4.out _).mono ?_; rintro e w1 ⟨rfl, rfl⟩)
    | (go_at_call 13; refine (A5.out _).mono ?_; rintro e w1 ⟨rfl, rfl⟩)
    | (go_at_call 14; refine (A6.out _).mono ?_; rintro e w1 ⟨rfl, rfl⟩)
  go_ret
  exact ⟨rfl, rfl⟩

end Go.Proofs.Ytadaegnkclleaaa.VShapes
