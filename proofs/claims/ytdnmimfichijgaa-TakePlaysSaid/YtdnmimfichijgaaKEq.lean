/- Two edits compared by '=='. -/
import Derived.Test.YtdnmimfichijgaaKTk
import Derived.Test.YtdnmimfichijgaaKLess
import Derived.Laws.StructEq
namespace Go.Proofs.Ytdnmimfichijgaa.KEq
open Go Go.RowKit Go.Proofs.Ytdnmimfichijgaa.KMod Go.Proofs.Ytdnmimfichijgaa.KTk
set_option linter.unusedVariables false
set_option linter.unusedSimpArgs false

set_option maxHeartbeats 1000000 in
theorem eq36 (d : Nat) (a b c a' b' c' : Int) (w : World) : (Op.equalIn (d + 2) 36 (.agg #[.int .i64 a, .int .i64 b, .int .i64 c]) (.agg #[.int .i64 a', .int .i64 b', .int .i64 c'])).run Try.prog w = .ok (decide (a = a' ∧ b = b' ∧ c = c')) w := by
  have u3 := Try.underlying3
  have a3 := Try.isAgg3
  have z3 := Try.sizeOf3
  have hS : Try.prog.underlying 36 = some (.struct (Try.prog.fieldsOf 36)) := by kernel_rfl
  have hp : Try.prog.stoodInHeld 36 = false := by kernel_rfl
  rw [run_equalIn_agg w (d + 1) 36 _ _ hS hp]
  simp only [Program.fieldsOf, Try.underlying36]
  go_simp
  by_cases h1 : a = a' <;> by_cases h2 : b = b' <;> by_cases h3 : c = c' <;> simp [h1, h2, h3]

set_option maxHeartbeats 1000000 in
theorem eq38 (d : Nat) (x y : Tone) (w : World) : (Op.equalIn (d + 3) 38 (.agg #[.int .i64 x.at_, .int .i64 x.long, .int .i64 x.lt, .int .i64 x.al, .int .i64 x.oc]) (.agg #[.int .i64 y.at_, .int .i64 y.long, .int .i64 y.lt, .int .i64 y.al, .int .i64 y.oc])).run Try.prog w = .ok (decide (x = y)) w := by
  obtain ⟨a, b, c1, c2, c3⟩ := x
  obtain ⟨a', b', d1, d2, d3⟩ := y
  have u3 := Try.underlying3
  have a3 := Try.isAgg3
  have z3 := Try.sizeOf3
  have a36 := Try.isAgg36
  have z36 := Try.sizeOf36
  have hS : Try.prog.underlying 38 = some (.struct (Try.prog.fieldsOf 38)) := by kernel_rfl
  have hp : Try.prog.stoodInHeld 38 = false := by kernel_rfl
  have h36 := fun w => eq36 d c1 c2 c3 d1 d2 d3 w
  rw [run_equalIn_agg w (d + 2) 38 _ _ hS hp]
  simp only [Program.fieldsOf, Try.underlying38]
  go_simp
  by_cases h1 : a = a' <;> by_cases h2 : b = b' <;> by_cases h3 : c1 = d1 <;> by_cases h4 : c2 = d2 <;> by_cases h5 : c3 = d3 <;> simp [h1, h2, h3, h4, h5]
set_option maxHeartbeats 1000000 in
theorem eq40 (d : Nat) (x y : Ed) (w : World) : (Op.equalIn (d + 4) 40 (.agg #[.int .i64 x.do_, .int .i64 x.n, .int .i64 x.t.at_, .int .i64 x.t.long, .int .i64 x.t.lt, .int .i64 x.t.al, .int .i64 x.t.oc]) (.agg #[.int .i64 y.do_, .int .i64 y.n, .int .i64 y.t.at_, .int .i64 y.t.long, .int .i64 y.t.lt, .int .i64 y.t.al, .int .i64 y.t.oc])).run Try.prog w = .ok (decide (x = y)) w := by
  have h38 := fun w => eq38 d x.t y.t w
  obtain ⟨a, b, t⟩ := x
  obtain ⟨a', b', t'⟩ := y
  have u3 := Try.underlying3
  have a3 := Try.isAgg3
  have z3 := Try.sizeOf3
  have a38 := Try.isAgg38
  have z38 := Try.sizeOf38
  have hS : Try.prog.underlying 40 = some (.struct (Try.prog.fieldsOf 40)) := by kernel_rfl
  have hp : Try.prog.stoodInHeld 40 = false := by kernel_rfl
  rw [run_equalIn_agg w (d + 3) 40 _ _ hS hp]
  simp only [Program.fieldsOf, Try.underlying40]
  go_simp
  by_cases h1 : a = a' <;> by_cases h2 : b = b' <;> by_cases h3 : t = t' <;> simp [h1, h2, h3]
theorem neq40 (x y : Ed) (w : World) : (binOp .neq 40 (.agg #[.int .i64 x.do_, .int .i64 x.n, .int .i64 x.t.at_, .int .i64 x.t.long, .int .i64 x.t.lt, .int .i64 x.t.al, .int .i64 x.t.oc]) (.agg #[.int .i64 y.do_, .int .i64 y.n, .int .i64 y.t.at_, .int .i64 y.t.long, .int .i64 y.t.lt, .int .i64 y.t.al, .int .i64 y.t.oc])).run Try.prog w = .ok (.bool (!decide (x = y))) w := by
  rw [run_neq_struct, show (10000 : Nat) = 9996 + 4 from rfl, eq40]
  rfl
theorem guard40 : Try.prog.eqGuardType Try.prog.depth 40 = false := by kernel_rfl
end Go.Proofs.Ytdnmimfichijgaa.KEq
