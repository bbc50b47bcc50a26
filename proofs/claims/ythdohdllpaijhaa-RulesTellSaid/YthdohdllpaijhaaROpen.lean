/- Rules, opened. -/
import Derived.Test.YthdohdllpaijhaaRows
import Derived.Test.YthdohdllpaijhaaOpn
import Derived.Test.YthdohdllpaijhaaRMod
namespace Go.Proofs.Ythdohdllpaijhaa.ROpen
open Go Go.RowKit Go.ChangeShapes Go.WideShapes Go.Deep Go.Proofs.Ythdohdllpaijhaa.RMod Go.Proofs.Ythdohdllpaijhaa.Opn Go.Proofs.Ythdohdllpaijhaa.Hp Go.Proofs.Ythdohdllpaijhaa.Rd
set_option linter.unusedVariables false

theorem own : ownKnob Try.prog.godebug = none := by kernel_rfl
theorem laidOut : laidOutB Try.prog = true := by kernel_rfl
theorem cells23 : Try.prog.cellsOf 23 = 5 := by kernel_rfl
theorem cells3 : Try.prog.cellsOf 3 = 1 := by kernel_rfl
theorem cells4 : Try.prog.cellsOf 4 = 1 := by kernel_rfl
theorem within23 : within Try.prog 2 23 = true := by kernel_rfl
theorem leaves23 : leaves Try.prog 2 23 0 = [(0, 3), (1, 3), (2, 4), (3, 3), (4, 3)] := by kernel_rfl

section
variable {H : Type} {enc : TypeId × Value → H} {w : World} {base b0 : Nat} {spare : Nat → Bool} {held : Bool} {r : Reach}

theorem leaf_cell {cs : List Value} {o : Nat} {v : Value} (h : (cs.drop o).take 1 = [v]) : cs[o]? = some v := by
  have := congrArg (·[0]?) h
  simpa [List.getElem?_take, List.getElem?_drop] using this

theorem open_rules {v : Value} {d : DataW H} {p : List MemPlace} (hv : Value.okWide Try.prog w r b0 23 v) (h : DataW.Trod enc Try.prog w base spare held 23 v d p) :
    ∃ q : Ru, v = .agg #[.int .i64 q.low, .int .i64 q.high, .bool q.above, .int .i64 q.leap, .int .i64 q.classes] := by
  obtain ⟨cs, rfl, hsz⟩ := okWide_struct Try.underlying23 hv
  rw [cells23] at hsz
  obtain ⟨fuel, hf⟩ := h
  obtain ⟨l⟩ := cs
  have hl : l.length = 5 := by simpa using hsz
  have hbig : (l.drop 0).take (Try.prog.cellsOf 23) = l := by rw [cells23, List.drop_zero, List.take_of_length_le (by omega)]
  have hq := leaves_of_trod (enc := enc) (P := Try.prog) (w := w) (base := base) (spare := spare) (held := held) l 2 23 0 fuel (d, p) within23 (by rw [hbig]; exact hf)
  rw [leaves23] at hq
  have gi : ∀ o, (o, 3) ∈ [(0, 3), (1, 3), (2, 4), (3, 3), (4, 3)] → ∃ x : Int, l[o]? = some (.int .i64 x) := fun o ho => by
    obtain ⟨n, y, h⟩ := hq (o, 3) ho
    rw [cells3] at h
    obtain ⟨x, hb, _, _⟩ := DataW.trod_int Try.underlying3 h
    exact ⟨x, leaf_cell hb⟩
  obtain ⟨x0, h0⟩ := gi 0 (by simp)
  obtain ⟨x1, h1⟩ := gi 1 (by simp)
  obtain ⟨x2, h2⟩ : ∃ x : Bool, l[2]? = some (.bool x) := by
    obtain ⟨n, y, h⟩ := hq (2, 4) (by simp)
    rw [cells4] at h
    obtain ⟨x, hb, _⟩ := DataW.trod_bool Try.underlying4 h
    exact ⟨x, leaf_cell hb⟩
  obtain ⟨x3, h3⟩ := gi 3 (by simp)
  obtain ⟨x4, h4⟩ := gi 4 (by simp)
  refine ⟨⟨x0, x1, x2, x3, x4⟩, ?_⟩
  match l, hl, h0, h1, h2, h3, h4 with
  | [u0, u1, u2, u3, u4], _, h0, h1, h2, h3, h4 => simp at h0 h1 h2 h3 h4; subst h0 h1 h2 h3 h4; rfl

theorem ils_of {v : Value} {d : DataW H} {p : List MemPlace} (hv : ∃ a len cap, v = .slice a len cap) (h : DataW.Trod enc Try.prog w base spare held 24 v d p) : ∃ ao cap, v = .slice ao ((els d).map int).length cap ∧ Ils w (.slice ao ((els d).map int).length cap) ((els d).map int) := by
  have h1 : Ils w v ((els d).map int) := ils_of_trod Try.underlying24 cells3 Try.underlying3 hv h
  obtain ⟨ao, cap, rfl, _⟩ := sl_open h1
  exact ⟨ao, cap, rfl, h1⟩
end

end Go.Proofs.Ythdohdllpaijhaa.ROpen
