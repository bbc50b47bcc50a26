/- RulesMoved: the walk (under way). -/
import Derived.Test.YthdohdllpaijhaaRMovL
import Derived.Test.YthdohdllpaijhaaRMay
import Derived.Test.YthdohdllpaijhaaRFind
import Derived.Test.YthdohdllpaijhaaRLess
namespace Go.Proofs.Ythdohdllpaijhaa.RMovW
open Go Go.RowKit Go.Proofs.Ythdohdllpaijhaa.RMod Go.Proofs.Ythdohdllpaijhaa.RCnt Go.Proofs.Ythdohdllpaijhaa.RFnd Go.Proofs.Ythdohdllpaijhaa.RFind Go.Proofs.Ythdohdllpaijhaa.RLess Go.Proofs.Ythdohdllpaijhaa.RMov Go.Proofs.Ythdohdllpaijhaa.RMovL Go.Proofs.Ythdohdllpaijhaa.RMay Go.Proofs.Ythdohdllpaijhaa.RCount Go.Proofs.Ythdohdllpaijhaa.RAlone Go.Proofs.Ythdohdllpaijhaa.Hp Go.Proofs.Ythdohdllpaijhaa.Rd
set_option linter.unusedVariables false
set_option linter.unusedSimpArgs false

/-- All that the law compares, from its premises. -/
theorem all_of {r : Ru} {g : List Int} {b : Int} (hb : 1 ≤ b) (h0 : 0 ≤ r.low) (hl : r.low ≤ r.high) (hh : r.high + b ≤ 127) (hc : 0 ≤ r.classes ∧ r.classes ≤ 4095) (hg : ∀ k ∈ g, 0 ≤ k ∧ k ≤ 127 - b) :
    wrongR (upR r b) (g.map (· + b)) = wrongR r g ∧ cntV (upR r b) (g.map (· + b)) = cntV r g ∧ findE (upR r b) (g.map (· + b)) = findE r g ∧ findL (upR r b) (g.map (· + b)) = (findL r g).map (· + b) :=
  have hw := wrong_moved hb h0 hl hh hc hg
  ⟨hw, (moved_of hb h0).all hw⟩

/-- 'bit' doubled so often. -/
theorem pow_next (i : Nat) : (2 : Int) * 2 ^ i = 2 ^ (i + 1) := by rw [Int.pow_succ, Int.mul_comm]

set_option maxHeartbeats 2000000 in
set_option maxRecDepth 100000 in
/-- Where a premise fails nothing is compared. -/
theorem law_no (r : Ru) (a1 : Option Addr) (c1 : Nat) (g : List Int) (by_ : Int) (w : World) (hb : by_ < 1 ∨ 127 < by_) :
    Calls Try.prog 3 #[.agg #[.int .i64 r.low, .int .i64 r.high, .bool r.above, .int .i64 r.leap, .int .i64 r.classes], .slice a1 g.length c1, .int .i64 by_] w
      fun e w' => e = .returned (.bool true) ∧ Hid (w.grownBy w' none) := by
  obtain ⟨low, high, above, leap, classes⟩ := r
  have HG0 : Hid (w.grownBy (w.alloc (.cells #[.int .i64 low, .int .i64 high, .bool above, .int .i64 leap, .int .i64 classes] 23)) none) := grown_alloc (grown_refl _ _) _
  rcases hb with hb | hb
  · go_enter Try.func3, Try.ntmps3
    go_wp2_with (go_at_call 6; refine (alive_calls _).mono ?_; rintro e w1 ⟨rfl, hg1⟩)
    go_ret
    exact ⟨rfl, grown_trans HG0.out hg1.out⟩
  · go_enter Try.func3, Try.ntmps3
    go_wp2_with (go_at_call 6; refine (alive_calls _).mono ?_; rintro e w1 ⟨rfl, hg1⟩)
    go_ret
    exact ⟨rfl, grown_trans HG0.out hg1.out⟩

set_option maxHeartbeats 3000000 in
set_option maxRecDepth 100000 in
/-- .. nor where the rules' own bounds fail. -/
theorem law_no2 (r : Ru) (a1 : Option Addr) (c1 : Nat) (g : List Int) (by_ : Int) (w : World) (hb : 1 ≤ by_ ∧ by_ ≤ 127) (h : r.high < 0 ∨ 127 < r.low) :
    Calls Try.prog 3 #[.agg #[.int .i64 r.low, .int .i64 r.high, .bool r.above, .int .i64 r.leap, .int .i64 r.classes], .slice a1 g.length c1, .int .i64 by_] w
      fun e w' => e = .returned (.bool true) ∧ Hid (w.grownBy w' none) := by
  obtain ⟨low, high, above, leap, classes⟩ := r
  simp only at h ⊢
  obtain ⟨b0, b1⟩ := hb
  have HG0 : Hid (w.grownBy (w.alloc (.cells #[.int .i64 low, .int .i64 high, .bool above, .int .i64 leap, .int .i64 classes] 23)) none) := grown_alloc (grown_refl _ _) _
  have HR0 : Hid ((w.alloc (.cells #[.int .i64 low, .int .i64 high, .bool above, .int .i64 leap, .int .i64 classes] 23)).heap[w.heap.size]? = some (.cells #[.int .i64 low, .int .i64 high, .bool above, .int .i64 leap, .int .i64 classes] 23 (0, 0))) := heap_alloc_new _ _
  have HS0 : Hid (w.heap.size < (w.alloc (.cells #[.int .i64 low, .int .i64 high, .bool above, .int .i64 leap, .int .i64 classes] 23)).heap.size) := by unfold Hid; simp
  by_cases h1 : high < 0
  all_goals
    go_enter Try.func3, Try.ntmps3
    go_upto_region 3 with (go_at_call 6; refine (alive_calls _).mono ?_; rintro e w1 ⟨rfl, hg1⟩)
    have HR1 : Hid (w1.heap[w.heap.size]? = some (.cells #[.int .i64 low, .int .i64 high, .bool above, .int .i64 leap, .int .i64 classes] 23 (0, 0))) := by
      unfold Hid; rw [hg1.out.block _ HS0.out (by simp)]; exact HR0.out
    have r0 := cell_of HR1.out 0
    have r1 := cell_of HR1.out 1
    have h2 : high < 0 ∨ 127 < low := h
    go_wp2_with fail
    go_ret
    exact ⟨rfl, grown_trans HG0.out hg1.out⟩

end Go.Proofs.Ythdohdllpaijhaa.RMovW
