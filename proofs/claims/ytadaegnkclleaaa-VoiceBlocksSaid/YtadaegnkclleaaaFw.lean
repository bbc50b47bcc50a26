/- Adding, subtracting, multiplying floats in a walk: whatever bits a NaN is given. Plain laws over any program. -/
import Derived.Test.YtadaegnkclleaaaLoose
import Derived.Test.YtadaegnkclleaaaFl
import Derived.WalkKit
import Derived.WalkLawsBesides
import Derived.BigQuiet
namespace Go.Proofs.Ytadaegnkclleaaa.Fw
open Go Go.Proofs.Ytadaegnkclleaaa.Fl

/-- What an operation on floats gives, NaNs as one. -/
def fo (op : BinOp) (x y : Nat) : Nat :=
  match op with
  | .add => fadd x y
  | .sub => fsub x y
  | _ => fmul x y

theorem nan_cut (x y t : Nat) : nan ((Question.nanBits .f64 x y).cut t) = true := by
  unfold nan Question.cut Ieee.Format.read
  have hs : D.signWeight = 2 ^ 63 := by decide
  have hi : D.infRung = 2047 * 2 ^ 52 := by decide
  have hb : D.binade = 2 ^ 52 := by decide
  have h1 : (t / 2) % (2 ^ 52 - 1) < 2 ^ 52 - 1 := Nat.mod_lt _ (by decide)
  have h2 : ((t % 2) * 2 ^ 63 + 0x7ff0000000000000 + 1 + (t / 2) % (2 ^ 52 - 1)) % 2 ^ 63 = 0x7ff0000000000000 + 1 + (t / 2) % (2 ^ 52 - 1) := by omega
  simp only [hs, h2, hi, hb]
  rw [if_neg (by omega), if_neg (by omega), if_neg (by omega)]
  rfl

section
variable {P : Program}

theorem run_farith (w : World) (op : BinOp) (h : op = .add ∨ op = .sub ∨ op = .mul) (t : TypeId) (x y : Nat) :
    ∃ r n, (binOp op t (.float .f64 x) (.float .f64 y)).run P w = .ok (.float .f64 r) (w.drewN n) ∧ cn r = fo op x y := by
  have key : ∀ (o : Option Nat) (s : Sem Value), s = (match o with | some r => pure (.float .f64 r) | none => do pure (.float .f64 (← choose (.nanBits .f64 x y)))) →
      ∃ r n, s.run P w = .ok (.float .f64 r) (w.drewN n) ∧ cn r = cno o := by
    intro o s hs
    cases o with
    | some r =>
      subst hs
      exact ⟨r, 0, by simp [World.drewN_zero], rfl⟩
    | none =>
      subst hs
      refine ⟨(Question.nanBits .f64 x y).cut (w.tape w.drawn (.nanBits .f64 x y)), 1, ?_, ?_⟩
      · simp [choose, Sem.run, Question.forced, World.drewN, Bind.bind, Sem.bind, Pure.pure]
      · rw [cn_of_nan (nan_cut x y _)]; rfl
  rcases h with rfl | rfl | rfl
  · exact key (D.add x y) _ (by simp [binOp, Op.floatArith]; rfl)
  · exact key (D.sub x y) _ (by simp [binOp, Op.floatArith]; rfl)
  · exact key (D.mul x y) _ (by simp [binOp, Op.floatArith]; rfl)

theorem run_exec_farith (w : World) {o : Oper} {a : Act} (op : BinOp) (h : op = .add ∨ op = .sub ∨ op = .mul) (X Y : Operand) (t t' : TypeId) (ho : o.op = .binOp op t X Y t') {x y : Nat}
    (hx : a.eval X = .float .f64 x) (hy : a.eval Y = .float .f64 y) :
    ∃ r n, (execOp a.eval o).run P w = .ok (.value (.float .f64 r)) (w.drewN n) ∧ cn r = fo op x y := by
  obtain ⟨r, n, hr, hc⟩ := run_farith (P := P) w op h t x y
  refine ⟨r, n, ?_, hc⟩
  have hg : eqGuard op t X Y (.float .f64 x) (.float .f64 y) = pure () := by
    rcases h with rfl | rfl | rfl <;> simp [eqGuard] <;> rfl
  unfold execOp
  simp only [ho, hx, hy, hg]
  simp [hr, Result.andThen]

/-- In a region that draws its order. -/
theorem loose_farith {w : World} {o : Oper} {a : Act} {c : Option Value} {K : Act → Prop} (op : BinOp) (h : op = .add ∨ op = .sub ∨ op = .mul) (X Y : Operand) (t t' : TypeId) (ho : o.op = .binOp op t X Y t') {x y : Nat}
    (hx : a.eval X = .float .f64 x) (hy : a.eval Y = .float .f64 y) (hk : ∀ r, cn r = fo op x y → K (a.put o.dst (.float .f64 r))) :
    Loose.loose P o a (fun w' => ∃ n, w' = w.drewN n) c K := by
  rintro _ ⟨n, rfl⟩
  obtain ⟨r, m, hr, hc⟩ := run_exec_farith (P := P) (w.drewN n) op h X Y t t' ho hx hy
  refine ⟨.float .f64 r, ?_, hk r hc⟩
  unfold Loose.gives
  rw [hr]
  exact ⟨⟨n + m, by rw [World.drewN_drewN]⟩, rfl⟩

/-- In the order of the text. -/
theorem wpList_farith (w : World) {ops : Array Oper} {rest : List Oper} {o : Oper} {a : Act} {Q : Exit → Act → World → Prop} (hg : o.guard = none) (op : BinOp) (h : op = .add ∨ op = .sub ∨ op = .mul) (X Y : Operand) (t t' : TypeId) (ho : o.op = .binOp op t X Y t')
    {x y : Nat} (hx : a.eval X = .float .f64 x) (hy : a.eval Y = .float .f64 y) (hk : ∀ r n, cn r = fo op x y → wpList P ops Q rest (a.put o.dst (.float .f64 r)) (w.drewN n)) :
    wpList P ops Q (o :: rest) a w := by
  refine wpList_plain hg fun K hK => ?_
  obtain ⟨r, n, hr, hc⟩ := run_exec_farith (P := P) w op h X Y t t' ho hx hy
  unfold Oper.wp
  rw [hr]
  exact hK _ _ (hk r n hc)

/-- A float stored in a cell. -/
@[go_sem] theorem run_store_float (w : World) (a : Addr) (m : Mode) (k : FloatKind) (x : Nat) : (store a (.float k x) m).run P w = stored P w a (.float k x) m := run_store P w a _ m rfl

/-- A float, its sign turned round. -/
@[go_sem] theorem unary_neg_float (x : Nat) : Op.unary .neg (.float .f64 x) = pure (.float .f64 (fneg x)) := rfl

/-- A callee that leaves the world as it is, called in a region that draws its order. -/
theorem loose_same {f : FuncId} {args : Array Value} {w : World} {v : Value} (h : ∀ n, Calls P f args (w.drewN n) fun e w' => e = .returned v ∧ w.drewN n = w') :
    ∀ w', (∃ n, w' = w.drewN n) → Calls P f args w' fun e w'' => e = .returned v ∧ ∃ n, w'' = w.drewN n := by
  rintro _ ⟨n, rfl⟩
  exact (h n).mono fun _ _ ⟨h1, h2⟩ => ⟨h1, n, h2.symm⟩

end
end Go.Proofs.Ytadaegnkclleaaa.Fw
