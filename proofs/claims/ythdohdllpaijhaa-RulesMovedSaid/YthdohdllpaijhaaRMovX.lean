/- RulesMoved: the walk. -/
import Derived.Test.YthdohdllpaijhaaRMovP
import Derived.Test.YthdohdllpaijhaaRMovW
namespace Go.Proofs.Ythdohdllpaijhaa.RMovX
open Go Go.RowKit Go.Proofs.Ythdohdllpaijhaa.RMod Go.Proofs.Ythdohdllpaijhaa.RCnt Go.Proofs.Ythdohdllpaijhaa.RFnd Go.Proofs.Ythdohdllpaijhaa.RFind Go.Proofs.Ythdohdllpaijhaa.RLess Go.Proofs.Ythdohdllpaijhaa.RMov Go.Proofs.Ythdohdllpaijhaa.RMovL Go.Proofs.Ythdohdllpaijhaa.RMovP Go.Proofs.Ythdohdllpaijhaa.RMay Go.Proofs.Ythdohdllpaijhaa.RCount Go.Proofs.Ythdohdllpaijhaa.RAlone Go.Proofs.Ythdohdllpaijhaa.Hp Go.Proofs.Ythdohdllpaijhaa.Rd Go.Proofs.Ythdohdllpaijhaa.App
set_option linter.unusedVariables false
set_option linter.unusedSimpArgs false

set_option maxHeartbeats 3000000 in
set_option maxRecDepth 100000 in
/-- .. nor where the upper bound or the classes fail. -/
theorem law_no3 (r : Ru) (a1 : Option Addr) (c1 : Nat) (g : List Int) (b sh : Int) (w : World) (hb : 1 ≤ b ∧ b ≤ 127) (hl7 : r.low ≤ 127) (hh : 0 ≤ r.high) (hsh : wrap64 (r.high + b) = sh) (h : 127 < sh ∨ r.classes < 0 ∨ 4095 < r.classes) :
    Calls Try.prog 3 #[.agg #[.int .i64 r.low, .int .i64 r.high, .bool r.above, .int .i64 r.leap, .int .i64 r.classes], .slice a1 g.length c1, .int .i64 b] w
      fun e w' => e = .returned (.bool true) ∧ Hid (w.grownBy w' none) := by
  obtain ⟨low, high, above, leap, classes⟩ := r
  simp only at h hl7 hh hsh ⊢
  obtain ⟨b0, b1⟩ := hb
  have HG0 : Hid (w.grownBy (w.alloc (.cells #[.int .i64 low, .int .i64 high, .bool above, .int .i64 leap, .int .i64 classes] 23)) none) := grown_alloc (grown_refl _ _) _
  have HR0 : Hid ((w.alloc (.cells #[.int .i64 low, .int .i64 high, .bool above, .int .i64 leap, .int .i64 classes] 23)).heap[w.heap.size]? = some (.cells #[.int .i64 low, .int .i64 high, .bool above, .int .i64 leap, .int .i64 classes] 23 (0, 0))) := heap_alloc_new _ _
  have HS0 : Hid (w.heap.size < (w.alloc (.cells #[.int .i64 low, .int .i64 high, .bool above, .int .i64 leap, .int .i64 classes] 23)).heap.size) := by unfold Hid; simp
  have HSH := Lib.hid hsh
  clear hsh
  by_cases h1 : 127 < sh
  · go_enter Try.func3, Try.ntmps3
    go_upto_region 3 with (go_at_call 6; refine (alive_calls _).mono ?_; rintro e w1 ⟨rfl, hg1⟩)
    have HR1 : Hid (w1.heap[w.heap.size]? = some (.cells #[.int .i64 low, .int .i64 high, .bool above, .int .i64 leap, .int .i64 classes] 23 (0, 0))) := by
      unfold Hid; rw [hg1.out.block _ HS0.out (by simp)]; exact HR0.out
    have r0 := cell_of HR1.out 0
    have r1 := cell_of HR1.out 1
    have hsh := HSH.out
    go_wp2_with fail
    go_ret
    exact ⟨rfl, grown_trans HG0.out hg1.out⟩
  by_cases h2 : classes < 0
  · go_enter Try.func3, Try.ntmps3
    go_upto_region 3 with (go_at_call 6; refine (alive_calls _).mono ?_; rintro e w1 ⟨rfl, hg1⟩)
    have HR1 : Hid (w1.heap[w.heap.size]? = some (.cells #[.int .i64 low, .int .i64 high, .bool above, .int .i64 leap, .int .i64 classes] 23 (0, 0))) := by
      unfold Hid; rw [hg1.out.block _ HS0.out (by simp)]; exact HR0.out
    have r0 := cell_of HR1.out 0
    have r1 := cell_of HR1.out 1
    have r4 := cell_of HR1.out 4
    have hsh := HSH.out
    go_wp2_with fail
    go_ret
    exact ⟨rfl, grown_trans HG0.out hg1.out⟩
  · have h3 : 4095 < classes := by omega
    go_enter Try.func3, Try.ntmps3
    go_upto_region 3 with (go_at_call 6; refine (alive_calls _).mono ?_; rintro e w1 ⟨rfl, hg1⟩)
    have HR1 : Hid (w1.heap[w.heap.size]? = some (.cells #[.int .i64 low, .int .i64 high, .bool above, .int .i64 leap, .int .i64 classes] 23 (0, 0))) := by
      unfold Hid; rw [hg1.out.block _ HS0.out (by simp)]; exact HR0.out
    have r0 := cell_of HR1.out 0
    have r1 := cell_of HR1.out 1
    have r4 := cell_of HR1.out 4
    have hsh := HSH.out
    go_wp2_with fail
    go_ret
    exact ⟨rfl, grown_trans HG0.out hg1.out⟩

end Go.Proofs.Ythdohdllpaijhaa.RMovX
