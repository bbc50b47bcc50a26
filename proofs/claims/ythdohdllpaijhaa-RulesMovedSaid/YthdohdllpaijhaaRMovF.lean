/- RulesMoved: all its ways, joined; the rules opened, with their bounds. -/
import Derived.Test.YthdohdllpaijhaaRMovM
import Derived.Test.YthdohdllpaijhaaROpen
namespace Go.Proofs.Ythdohdllpaijhaa.RMovF
open Go Go.RowKit Go.ChangeShapes Go.WideShapes Go.Deep Go.Proofs.Ythdohdllpaijhaa.RMod Go.Proofs.Ythdohdllpaijhaa.Opn Go.Proofs.Ythdohdllpaijhaa.ROpen Go.Proofs.Ythdohdllpaijhaa.Hp Go.Proofs.Ythdohdllpaijhaa.Rd Go.Proofs.Ythdohdllpaijhaa.RMovW Go.Proofs.Ythdohdllpaijhaa.RMovX Go.Proofs.Ythdohdllpaijhaa.RMovM
set_option linter.unusedVariables false

theorem law (r : Ru) (a1 : Option Addr) (c1 : Nat) (g : List Int) (b : Int) (w : World) (hm : r.high ≤ 9223372036854775807) (hg63 : g.length * 8 ≤ 140737488351232) (hv : Ils w (.slice a1 g.length c1) g) :
    Calls Try.prog 3 #[.agg #[.int .i64 r.low, .int .i64 r.high, .bool r.above, .int .i64 r.leap, .int .i64 r.classes], .slice a1 g.length c1, .int .i64 b] w
      fun e w' => e = .returned (.bool true) ∧ Hid (w.grownBy w' none) := by
  by_cases hb : b < 1 ∨ 127 < b
  · exact law_no r a1 c1 g b w hb
  have hb' : 1 ≤ b ∧ b ≤ 127 := by omega
  by_cases h1 : r.high < 0 ∨ 127 < r.low
  · exact law_no2 r a1 c1 g b w hb' h1
  by_cases h2 : 127 < wrap64 (r.high + b) ∨ r.classes < 0 ∨ 4095 < r.classes
  · exact law_no3 r a1 c1 g b _ w hb' (by omega) (by omega) rfl h2
  · exact law_main r a1 c1 g b _ _ w hb' (by omega) (by omega) hm rfl rfl (by omega) (by omega) hg63 hv

section
variable {H : Type} {enc : TypeId × Value → H} {w : World} {base b0 : Nat} {spare : Nat → Bool} {held : Bool} {r : Reach}

theorem open_rulesB {v : Value} {d : DataW H} {p : List MemPlace} (hv : Value.okWide Try.prog w r b0 23 v) (h : DataW.Trod enc Try.prog w base spare held 23 v d p) :
    ∃ q : Ru, v = .agg #[.int .i64 q.low, .int .i64 q.high, .bool q.above, .int .i64 q.leap, .int .i64 q.classes] ∧ q.high ≤ 9223372036854775807 := by
  obtain ⟨q, rfl⟩ := open_rules hv h
  refine ⟨q, rfl, ?_⟩
  obtain ⟨fuel, hf⟩ := h
  have hbig : ([.int .i64 q.low, .int .i64 q.high, .bool q.above, .int .i64 q.leap, .int .i64 q.classes].drop 0 : List Value).take (Try.prog.cellsOf 23) = [.int .i64 q.low, .int .i64 q.high, .bool q.above, .int .i64 q.leap, .int .i64 q.classes] := by rw [cells23]; rfl
  have hq := leaves_of_trod (enc := enc) (P := Try.prog) (w := w) (base := base) (spare := spare) (held := held) [.int .i64 q.low, .int .i64 q.high, .bool q.above, .int .i64 q.leap, .int .i64 q.classes] 2 23 0 fuel (d, p) within23 (by rw [hbig]; exact hf)
  rw [leaves23] at hq
  obtain ⟨n, y, h⟩ := hq (1, 3) (by simp)
  rw [cells3] at h
  obtain ⟨x, hb, _, hwf⟩ := DataW.trod_int Try.underlying3 h
  simp only [List.drop_succ_cons, List.drop_zero, List.take_succ_cons, List.take_zero, List.cons.injEq, Value.int.injEq, true_and, and_true] at hb
  rw [hb]
  simp only [Lit.wf, IntKind.min, IntKind.max, IntKind.signed, IntKind.bits, Bool.and_eq_true, decide_eq_true_eq, if_true] at hwf
  omega
end
end Go.Proofs.Ythdohdllpaijhaa.RMovF
