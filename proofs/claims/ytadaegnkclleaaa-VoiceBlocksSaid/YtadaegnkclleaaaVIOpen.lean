/- A slice of ints, opened, with its range. -/
import Derived.Test.YtadaegnkclleaaaVOpen
namespace Go.Proofs.Ytadaegnkclleaaa.VIOpen
open Go Go.RowKit Go.ChangeShapes Go.WideShapes Go.Deep Go.Proofs.Ytadaegnkclleaaa.Opn Go.Proofs.Ytadaegnkclleaaa.Hp Go.Proofs.Ytadaegnkclleaaa.Rd
set_option linter.unusedVariables false

section
variable {H : Type} {enc : TypeId × Value → H} {P : Program} {w : World} {base : Nat} {spare : Nat → Bool} {held : Bool} {t e : TypeId}

theorem ints_of_trod (ht : P.underlying t = some (.slice e)) (hC : P.cellsOf e = 1) (he : P.underlying e = some (.int .i64)) {v : Value} {d : DataW H} {p : List MemPlace}
    (hv : ∃ a len cap, v = .slice a len cap) (h : DataW.Trod enc P w base spare held t v d p) : Ils w v ((els d).map int) ∧ ∀ n ∈ (els d).map int, -9223372036854775808 ≤ n ∧ n ≤ 9223372036854775807 := by
  have key : Sl (fun _ u x => u = .int .i64 x ∧ -9223372036854775808 ≤ x ∧ x ≤ 9223372036854775807) w v ((els d).map int) := sl_of_trod int ht hC hv h fun n u d p h => by
    obtain ⟨b, hu, hx, hw⟩ := DataW.trod_int he h
    simp only [List.cons.injEq, and_true, Prod.mk.injEq] at hu hx
    rw [hu, hx.1]
    simp only [Lit.wf, show IntKind.i64.min = -9223372036854775808 from rfl, show IntKind.i64.max = 9223372036854775807 from rfl, Bool.and_eq_true, decide_eq_true_eq] at hw
    exact ⟨rfl, hw.1, hw.2⟩
  refine ⟨Sl.imp key fun u x h => h.1, fun n hn => ?_⟩
  obtain ⟨i, hi, hin⟩ := List.getElem_of_mem hn
  rcases key with ⟨b, off, cap, _, hel⟩ | ⟨_, _, _, hnil⟩
  · obtain ⟨u, _, _, h1, h2⟩ := hel i n (by rw [List.getElem?_eq_getElem hi, hin])
    exact ⟨h1, h2⟩
  · rw [hnil] at hn; cases hn
end

end Go.Proofs.Ytadaegnkclleaaa.VIOpen
