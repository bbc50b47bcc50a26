/- Operations on floats and complex numbers whose answer is known: laws for the walk. Over any program. -/
import Derived.WalkKit
import Derived.WalkLawsBesides
import Derived.BigQuiet
namespace Go.Proofs.Ytadaegnkclleaaa.Fd
open Go

def fdraw (P : Program) (w : World) (x y : Nat) (o : Option Nat) : Result Value :=
  match o with
  | some r => .ok (.float .f64 r) w
  | none => (Sem.bind (choose (.nanBits .f64 x y)) fun r => pure (.float .f64 r)).run P w

section
variable {P : Program} (w : World) (t : TypeId) (x y : Nat)

@[go_sem] theorem fdraw_some (r : Nat) : fdraw P w x y (some r) = .ok (.float .f64 r) w := rfl

@[go_sem] theorem run_fadd : (binOp .add t (.float .f64 x) (.float .f64 y)).run P w = fdraw P w x y (FloatKind.f64.format.add x y) := by
  have h : binOp .add t (.float .f64 x) (.float .f64 y) = Op.floatArith .add .f64 x y := by simp [binOp]
  rw [h]
  unfold Op.floatArith fdraw
  cases FloatKind.f64.format.add x y <;> rfl
@[go_sem] theorem run_fsub : (binOp .sub t (.float .f64 x) (.float .f64 y)).run P w = fdraw P w x y (FloatKind.f64.format.sub x y) := by
  have h : binOp .sub t (.float .f64 x) (.float .f64 y) = Op.floatArith .sub .f64 x y := by simp [binOp]
  rw [h]
  unfold Op.floatArith fdraw
  cases FloatKind.f64.format.sub x y <;> rfl
@[go_sem] theorem run_fmul : (binOp .mul t (.float .f64 x) (.float .f64 y)).run P w = fdraw P w x y (FloatKind.f64.format.mul x y) := by
  have h : binOp .mul t (.float .f64 x) (.float .f64 y) = Op.floatArith .mul .f64 x y := by simp [binOp]
  rw [h]
  unfold Op.floatArith fdraw
  cases FloatKind.f64.format.mul x y <;> rfl
@[go_sem] theorem run_fdiv : (binOp .quo t (.float .f64 x) (.float .f64 y)).run P w = fdraw P w x y (FloatKind.f64.format.div x y) := by
  have h : binOp .quo t (.float .f64 x) (.float .f64 y) = Op.floatArith .quo .f64 x y := by simp [binOp]
  rw [h]
  unfold Op.floatArith fdraw
  cases FloatKind.f64.format.div x y <;> rfl

/-- A product of complex numbers, each of its six operations known. -/
theorem run_cmul {a b c d p q r s e f : Nat} (h1 : FloatKind.f64.format.mul a c = some p) (h2 : FloatKind.f64.format.mul b d = some q) (h3 : FloatKind.f64.format.mul a d = some r) (h4 : FloatKind.f64.format.mul b c = some s)
    (h5 : FloatKind.f64.format.sub p q = some e) (h6 : FloatKind.f64.format.add r s = some f) : (binOp .mul t (.complex .f64 a b) (.complex .f64 c d)).run P w = .ok (.complex .f64 e f) w := by
  have h : binOp .mul t (.complex .f64 a b) (.complex .f64 c d) = Op.complexOp .mul .f64 a b c d := by simp [binOp]
  rw [h]
  have ar : ∀ {op : BinOp} {x y z : Nat} (hh : Op.floatArith op .f64 x y = pure (.float .f64 z)), Op.Complex.arith op .f64 x y = pure z := by
    intro op x y z hh
    unfold Op.Complex.arith
    rw [hh]
    rfl
  have e1 : Op.Complex.mul a c = pure p := ar (by simp [Op.floatArith, h1])
  have e2 : Op.Complex.mul b d = pure q := ar (by simp [Op.floatArith, h2])
  have e3 : Op.Complex.mul a d = pure r := ar (by simp [Op.floatArith, h3])
  have e4 : Op.Complex.mul b c = pure s := ar (by simp [Op.floatArith, h4])
  have e5 : Op.Complex.sub p q = pure e := ar (by simp [Op.floatArith, h5])
  have e6 : Op.Complex.add r s = pure f := ar (by simp [Op.floatArith, h6])
  simp [Op.complexOp, Op.Complex.conv, Op.Complex.product, e1, e2, e3, e4, e5, e6]

end
end Go.Proofs.Ytadaegnkclleaaa.Fd
