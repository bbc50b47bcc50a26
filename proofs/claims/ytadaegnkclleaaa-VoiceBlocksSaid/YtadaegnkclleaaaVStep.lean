/- Step, the program's and the reference's: the walks. -/
import Derived.Test.YtadaegnkclleaaaVShape
namespace Go.Proofs.Ytadaegnkclleaaa.VStep
open Go Go.RowKit Go.Proofs.Ytadaegnkclleaaa.Rnd Go.Proofs.Ytadaegnkclleaaa.Flo Go.Proofs.Ytadaegnkclleaaa.Flc Go.Proofs.Ytadaegnkclleaaa.VTab Go.Proofs.Ytadaegnkclleaaa.VSine
set_option linter.unusedVariables false

def Gives (f : Nat) (h : Nat) (r : Int) (n : Nat) (e : Int) : Prop := ∀ w, Calls Try.prog f #[.float .f64 h, .int .i64 r] w fun x w' => x = .returned (.tuple #[.int .u32 n, .int .i64 e]) ∧ w = w'

set_option maxHeartbeats 400000 in
set_option maxRecDepth 100000 in
theorem out_low (h : Nat) (r : Int) (hr : r < 1) : Gives 13 h r 0 3 ∧ Gives 14 h r 0 3 := by
  refine ⟨fun w => ?_, fun w => ?_⟩
  · go_enter Try.func13, Try.ntmps13
    go_wp2_with fail
    go_ret2
    exact ⟨rfl, rfl⟩
  · go_enter Try.func14, Try.ntmps14
    go_wp2_with fail
    go_ret2
    exact ⟨rfl, rfl⟩

set_option maxHeartbeats 400000 in
set_option maxRecDepth 100000 in
theorem out_high (h : Nat) (r : Int) (h1 : ¬ r < 1) (hr : 1048576 < r) : Gives 13 h r 0 3 ∧ Gives 14 h r 0 3 := by
  refine ⟨fun w => ?_, fun w => ?_⟩
  · go_enter Try.func13, Try.ntmps13
    go_wp2_with fail
    go_ret2
    exact ⟨rfl, rfl⟩
  · go_enter Try.func14, Try.ntmps14
    go_wp2_with fail
    go_ret2
    exact ⟨rfl, rfl⟩

set_option maxHeartbeats 400000 in
set_option maxRecDepth 100000 in
theorem below (h : Nat) (r : Int) (h1 : ¬ r < 1) (h2 : ¬ 1048576 < r) (ho : FloatKind.f64.format.order h 0 = none ∨ FloatKind.f64.format.order h 0 = some .lt) : Gives 13 h r 0 3 ∧ Gives 14 h r 0 3 := by
  refine ⟨fun w => ?_, fun w => ?_⟩
  · rcases ho with ho | ho
    · go_enter Try.func13, Try.ntmps13
      go_wp2_with fail
      go_ret2
      exact ⟨rfl, rfl⟩
    · go_enter Try.func13, Try.ntmps13
      go_wp2_with fail
      go_ret2
      exact ⟨rfl, rfl⟩
  · rcases ho with ho | ho
    · go_enter Try.func14, Try.ntmps14
      go_wp2_with fail
      go_ret2
      exact ⟨rfl, rfl⟩
    · go_enter Try.func14, Try.ntmps14
      go_wp2_with fail
      go_ret2
      exact ⟨rfl, rfl⟩

set_option maxHeartbeats 400000 in
set_option maxRecDepth 100000 in
theorem above (h : Nat) (r : Int) (h1 : ¬ r < 1) (h2 : ¬ 1048576 < r) (ho : FloatKind.f64.format.order h 0 = some .gt ∨ FloatKind.f64.format.order h 0 = some .eq) {nm x z : Nat} (hnm : floatOfInt FloatKind.f64 r = nm)
    (a1 : FloatKind.f64.format.div nm 4611686018427387904 = some x) (a2 : FloatKind.f64.format.order h x = some .gt) (a3 : FloatKind.f64.format.mul 4611686018427387904 h = some z) (a4 : FloatKind.f64.format.order z nm = some .gt) :
    Gives 13 h r 0 3 ∧ Gives 14 h r 0 3 := by
  refine ⟨fun w => ?_, fun w => ?_⟩
  · rcases ho with ho | ho
    · go_enter Try.func13, Try.ntmps13
      go_wp2_with fail
      go_ret2
      exact ⟨rfl, rfl⟩
    · go_enter Try.func13, Try.ntmps13
      go_wp2_with fail
      go_ret2
      exact ⟨rfl, rfl⟩
  · rcases ho with ho | ho
    · go_enter Try.func14, Try.ntmps14
      go_wp2_with fail
      go_ret2
      exact ⟨rfl, rfl⟩
    · go_enter Try.func14, Try.ntmps14
      go_wp2_with fail
      go_ret2
      exact ⟨rfl, rfl⟩

set_option maxHeartbeats 400000 in
set_option maxRecDepth 100000 in
theorem within (h : Nat) (r : Int) (h1 : ¬ r < 1) (h2 : ¬ 1048576 < r) (ho : FloatKind.f64.format.order h 0 = some .gt ∨ FloatKind.f64.format.order h 0 = some .eq) {nm x z p q : Nat} (hnm : floatOfInt FloatKind.f64 r = nm)
    (a1 : FloatKind.f64.format.div nm 4611686018427387904 = some x) (a2 : FloatKind.f64.format.order h x = some .lt ∨ FloatKind.f64.format.order h x = some .eq)
    (a3 : FloatKind.f64.format.mul 4611686018427387904 h = some z) (a4 : FloatKind.f64.format.order z nm = some .lt ∨ FloatKind.f64.format.order z nm = some .eq)
    (a5 : FloatKind.f64.format.mul h 4751297606875873280 = some p) (a6 : FloatKind.f64.format.div p nm = some q) {k : Nat} (a7 : (D.read q).toInt .zero = some (k : Int)) (hk : k ≤ 2147483648) :
    Gives 13 h r k 0 ∧ Gives 14 h r k 0 := by
  have hcv : ∀ w, (convert 23 22 (.float .f64 q)).run Try.prog w = .ok (.int .u32 k) w := fun w => run_convert_float_int w 23 22 .f64 .u32 q k (by kernel_rfl) (by kernel_rfl) (by
    unfold floatToIntVal
    rw [show (FloatKind.f64.decode q).toInt .zero = some (k : Int) from a7]
    simp only [show IntKind.u32.min = 0 from rfl, show IntKind.u32.max = 4294967295 from rfl]
    rw [if_pos (by omega)])
  clear a7
  refine ⟨fun w => ?_, fun w => ?_⟩
  · rcases ho with ho | ho <;> rcases a2 with a2 | a2
    all_goals
      go_enter Try.func13, Try.ntmps13
      go_wp2_with fail
      go_ret2
      exact ⟨rfl, rfl⟩
  · rcases ho with ho | ho <;> rcases a4 with a4 | a4
    all_goals
      go_enter Try.func14, Try.ntmps14
      go_wp2_with fail
      go_ret2
      exact ⟨rfl, rfl⟩

end Go.Proofs.Ytadaegnkclleaaa.VStep
