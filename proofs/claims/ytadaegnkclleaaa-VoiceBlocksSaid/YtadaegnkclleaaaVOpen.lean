/- A patch, opened. -/
import Derived.Test.YtadaegnkclleaaaRows
import Derived.Test.YtadaegnkclleaaaOpn
import Derived.Test.YtadaegnkclleaaaVMod
namespace Go.Proofs.Ytadaegnkclleaaa.VOpen
open Go Go.RowKit Go.ChangeShapes Go.WideShapes Go.Deep Go.Proofs.Ytadaegnkclleaaa.VMod Go.Proofs.Ytadaegnkclleaaa.Opn Go.Proofs.Ytadaegnkclleaaa.Hp Go.Proofs.Ytadaegnkclleaaa.Rd
set_option linter.unusedVariables false

theorem own : ownKnob Try.prog.godebug = none := by kernel_rfl
theorem laidOut : laidOutB Try.prog = true := by kernel_rfl
theorem cells33 : Try.prog.cellsOf 33 = 7 := by kernel_rfl
theorem cells3 : Try.prog.cellsOf 3 = 1 := by kernel_rfl
theorem cells22 : Try.prog.cellsOf 22 = 1 := by kernel_rfl
theorem cells23 : Try.prog.cellsOf 23 = 1 := by kernel_rfl
theorem within33 : within Try.prog 2 33 = true := by kernel_rfl
theorem leaves33 : leaves Try.prog 2 33 0 = [(0, 3), (1, 22), (2, 23), (3, 3), (4, 3), (5, 3), (6, 3)] := by kernel_rfl

section
variable {H : Type} {enc : TypeId × Value → H} {w : World} {base b0 : Nat} {spare : Nat → Bool} {held : Bool} {r : Reach}

theorem leaf_cell {cs : List Value} {o : Nat} {v : Value} (h : (cs.drop o).take 1 = [v]) : cs[o]? = some v := by
  have := congrArg (·[0]?) h
  simpa [List.getElem?_take, List.getElem?_drop] using this

theorem open_patch {v : Value} {d : DataW H} {p : List MemPlace} (hv : Value.okWide Try.prog w r b0 33 v) (h : DataW.Trod enc Try.prog w base spare held 33 v d p) :
    ∃ q : Pt, v = .agg #[.int .i64 q.shape, .int .u32 q.step, .float .f64 q.gain, .int .i64 q.att, .int .i64 q.dec, .int .i64 q.rel, .int .i64 q.sus] ∧ q.step < 4294967296 := by
  obtain ⟨cs, rfl, hsz⟩ := okWide_struct Try.underlying33 hv
  rw [cells33] at hsz
  obtain ⟨fuel, hf⟩ := h
  obtain ⟨l⟩ := cs
  have hl : l.length = 7 := by simpa using hsz
  have hbig : (l.drop 0).take (Try.prog.cellsOf 33) = l := by rw [cells33, List.drop_zero, List.take_of_length_le (by omega)]
  have hq := leaves_of_trod (enc := enc) (P := Try.prog) (w := w) (base := base) (spare := spare) (held := held) l 2 33 0 fuel (d, p) within33 (by rw [hbig]; exact hf)
  rw [leaves33] at hq
  have gi : ∀ o, (o, 3) ∈ [(0, 3), (1, 22), (2, 23), (3, 3), (4, 3), (5, 3), (6, 3)] → ∃ x : Int, l[o]? = some (.int .i64 x) := fun o ho => by
    obtain ⟨n, y, h⟩ := hq (o, 3) ho
    rw [cells3] at h
    obtain ⟨x, hb, _, _⟩ := DataW.trod_int Try.underlying3 h
    exact ⟨x, leaf_cell hb⟩
  obtain ⟨x0, h0⟩ := gi 0 (by simp)
  obtain ⟨x1, h1, hx1⟩ : ∃ x : Nat, l[1]? = some (.int .u32 x) ∧ x < 4294967296 := by
    obtain ⟨n, y, h⟩ := hq (1, 22) (by simp)
    rw [cells22] at h
    obtain ⟨x, hb, _, hw⟩ := DataW.trod_int Try.underlying22 h
    simp only [Lit.wf, show IntKind.u32.min = 0 from rfl, show IntKind.u32.max = 4294967295 from rfl, Bool.and_eq_true, decide_eq_true_eq] at hw
    refine ⟨x.toNat, ?_, by omega⟩
    rw [Int.toNat_of_nonneg hw.1]
    exact leaf_cell hb
  obtain ⟨x2, h2⟩ : ∃ x : Nat, l[2]? = some (.float .f64 x) := by
    obtain ⟨n, y, h⟩ := hq (2, 23) (by simp)
    rw [cells23] at h
    obtain ⟨x, hb, _⟩ := trod_float Try.underlying23 h
    exact ⟨x, leaf_cell hb⟩
  obtain ⟨x3, h3⟩ := gi 3 (by simp)
  obtain ⟨x4, h4⟩ := gi 4 (by simp)
  obtain ⟨x5, h5⟩ := gi 5 (by simp)
  obtain ⟨x6, h6⟩ := gi 6 (by simp)
  refine ⟨⟨x0, x1, x2, x3, x4, x5, x6⟩, ?_, hx1⟩
  match l, hl, h0, h1, h2, h3, h4, h5, h6 with
  | [u0, u1, u2, u3, u4, u5, u6], _, h0, h1, h2, h3, h4, h5, h6 => simp at h0 h1 h2 h3 h4 h5 h6; subst h0 h1 h2 h3 h4 h5 h6; rfl
end

end Go.Proofs.Ytadaegnkclleaaa.VOpen
