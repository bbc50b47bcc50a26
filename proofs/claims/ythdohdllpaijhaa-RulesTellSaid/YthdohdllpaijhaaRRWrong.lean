/- Wrong. -/
import Derived.Test.YthdohdllpaijhaaRAlone
namespace Go.Proofs.Ythdohdllpaijhaa.RRWrong
open Go Go.RowKit Go.Proofs.Ythdohdllpaijhaa.RMod Go.Proofs.Ythdohdllpaijhaa.RAlone Go.Proofs.Ythdohdllpaijhaa.Hp Go.Proofs.Ythdohdllpaijhaa.Rd
set_option linter.unusedVariables false
set_option linter.unusedSimpArgs false

set_option maxHeartbeats 4000000 in
set_option maxRecDepth 100000 in
theorem rwrong_calls (r : Ru) (ao : Option Addr) (cap : Nat) (g : List Int) (w : World) (hv : Ils w (.slice ao g.length cap) g) :
    Calls Try.prog 11 #[.agg #[.int .i64 r.low, .int .i64 r.high, .bool r.above, .int .i64 r.leap, .int .i64 r.classes], .slice ao g.length cap] w fun e w' => e = .returned (.int .i64 (wrongR r g)) ∧ Hid (w.grownBy w' none) := by
  obtain ⟨n, hn⟩ : ∃ n, g.length = n := ⟨_, rfl⟩
  have HN := Lib.hid hn
  obtain ⟨low, high, above, leap, classes⟩ := r
  obtain ⟨R, hR⟩ : ∃ R, wrongR ⟨low, high, above, leap, classes⟩ g = R := ⟨_, rfl⟩
  have HR : Hid (R = if n = 0 ∨ 64 < n then 5 else if g.all keyB = false then 3 else if okR ⟨low, high, above, leap, classes⟩ then 0 else 3) := by
    unfold Hid; rw [← hR]; unfold wrongR; rw [hn]
  rw [hn] at hv ⊢
  rw [hR]
  have HV := Lib.hid hv
  have HG0 : Hid (w.grownBy (w.alloc (.cells #[.int .i64 low, .int .i64 high, .bool above, .int .i64 leap, .int .i64 classes] 23)) none) := grown_alloc (grown_refl _ _) _
  clear hn hv hR
  by_cases h0 : n = 0
  · have HX : Hid (R = 5) := by unfold Hid; rw [HR.out, if_pos (.inl h0)]
    subst h0
    clear HR
    go_enter Try.func11, Try.ntmps11
    go_wp2_with fail
    go_ret
    exact ⟨by rw [HX.out]; rfl, HG0.out⟩
  have h0' : ((n : Int) == 0) = false := by rw [beq_eq_false_iff_ne]; omega
  by_cases h64 : 64 < n
  · have HX : Hid (R = 5) := by unfold Hid; rw [HR.out, if_pos (.inr h64)]
    clear HR
    go_enter Try.func11, Try.ntmps11
    go_wp2_with fail
    go_ret
    exact ⟨by rw [HX.out]; rfl, HG0.out⟩
  have HR2 : Hid (R = if g.all keyB = false then 3 else if okR ⟨low, high, above, leap, classes⟩ then 0 else 3) := by unfold Hid; rw [HR.out, if_neg (by omega)]
  clear HR
  go_enter Try.func11, Try.ntmps11
  go_wp2_with fail
  obtain ⟨gb, hgb⟩ : ∃ gb, w.heap.size = gb := ⟨_, rfl⟩
  obtain ⟨w1, hw1⟩ : ∃ w1, w.alloc (.cells #[.int .i64 low, .int .i64 high, .bool above, .int .i64 leap, .int .i64 classes] 23) = w1 := ⟨_, rfl⟩
  have HROW : Hid (w1.heap[gb]? = some (.cells #[.int .i64 low, .int .i64 high, .bool above, .int .i64 leap, .int .i64 classes] 23 (0, 0))) := by rw [← hw1, ← hgb]; exact heap_alloc_new _ _
  rw [hw1] at HG0
  simp only [hgb, hw1]
  clear hgb hw1
  go_loop [17] (fun i => ∃ k : Nat, k ≤ n ∧ i = .int .i64 (k : Int) ∧ Hid ((g.take k).all keyB = true)) (fun i => n - (intOf i).toNat)
  case atStart => exact ⟨0, Nat.zero_le _, rfl, by unfold Hid; simp⟩
  case round =>
    obtain ⟨k, hk, rfl, HA⟩ := hrel
    by_cases hlt : k < n
    · obtain ⟨b, off, rfl, hc⟩ := giv_at HV.out (i := k) (by rw [HN.out]; exact hlt)
      have hcell : w1.cell? ⟨b, off + k, none⟩ = some (.int .i64 (at_ g k)) := grown_cell HG0.out hc (by simp)
      have HGE : Hid (g[k]? = some (at_ g k)) := by unfold Hid at_; rw [List.getD_eq_getElem?_getD, List.getElem?_eq_getElem (by rw [HN.out]; exact hlt)]; rfl
      obtain ⟨x, hx⟩ : ∃ x, at_ g k = x := ⟨_, rfl⟩
      rw [hx] at hcell HGE
      clear hc hx
      have HBADK : Hid (keyB x = false → R = 3) := by
        intro hb
        rw [HR2.out, if_pos]
        rw [Bool.eq_false_iff]
        intro h
        rw [List.all_eq_true] at h
        rw [h x (List.mem_of_getElem? HGE.out)] at hb
        cases hb
      by_cases x0 : x < 0
      · have HX := Lib.hid (HBADK.out (by unfold keyB; simp; omega))
        go_wp2_with fail
        go_ret
        exact ⟨by rw [HX.out]; rfl, HG0.out⟩
      by_cases x1 : 127 < x
      · have HX := Lib.hid (HBADK.out (by unfold keyB; simp; omega))
        go_wp2_with fail
        go_ret
        exact ⟨by rw [HX.out]; rfl, HG0.out⟩
      have HA2 : Hid ((g.take (k + 1)).all keyB = true) := by
        obtain ⟨hi, he⟩ := List.getElem?_eq_some_iff.1 HGE.out
        unfold Hid
        rw [List.take_succ_eq_append_getElem hi, List.all_append, HA.out, he]
        unfold keyB
        simp
        omega
      go_wp2_with fail
      go_round
      case rel => exact ⟨k + 1, by omega, by go_num, HA2⟩
      case measure => simp [intOf]; omega
    · obtain rfl : n = k := by omega
      have hall : g.all keyB = true := by
        have := HA.out
        rwa [List.take_of_length_le (by rw [HN.out]; exact Nat.le_refl _)] at this
      have HR3 : Hid (R = if okR ⟨low, high, above, leap, classes⟩ then 0 else 3) := by unfold Hid; rw [HR2.out, if_neg (by rw [hall]; decide)]
      have c0 : w1.cell? ⟨gb, 0, none⟩ = some (.int .i64 low) := cell_of HROW.out 0
      have c1 : w1.cell? ⟨gb, 1, none⟩ = some (.int .i64 high) := cell_of HROW.out 1
      have c3 : w1.cell? ⟨gb, 3, none⟩ = some (.int .i64 leap) := cell_of HROW.out 3
      have c4 : w1.cell? ⟨gb, 4, none⟩ = some (.int .i64 classes) := cell_of HROW.out 4
      clear hall HR2 HA
      by_cases t0 : low < 0
      · have HX : Hid (R = 3) := by unfold Hid; rw [HR3.out, if_neg (by unfold okR; simp only; omega)]
        clear HR3
        go_wp2_with fail
        go_ret
        exact ⟨by rw [HX.out]; rfl, HG0.out⟩
      by_cases t1 : high < low
      · have HX : Hid (R = 3) := by unfold Hid; rw [HR3.out, if_neg (by unfold okR; simp only; omega)]
        clear HR3
        go_wp2_with fail
        go_ret
        exact ⟨by rw [HX.out]; rfl, HG0.out⟩
      by_cases t2 : 127 < high
      · have HX : Hid (R = 3) := by unfold Hid; rw [HR3.out, if_neg (by unfold okR; simp only; omega)]
        clear HR3
        go_wp2_with fail
        go_ret
        exact ⟨by rw [HX.out]; rfl, HG0.out⟩
      by_cases t3 : leap < 0
      · have HX : Hid (R = 3) := by unfold Hid; rw [HR3.out, if_neg (by unfold okR; simp only; omega)]
        clear HR3
        go_wp2_with fail
        go_ret
        exact ⟨by rw [HX.out]; rfl, HG0.out⟩
      by_cases t4 : classes < 0
      · have HX : Hid (R = 3) := by unfold Hid; rw [HR3.out, if_neg (by unfold okR; simp only; omega)]
        clear HR3
        go_wp2_with fail
        go_ret
        exact ⟨by rw [HX.out]; rfl, HG0.out⟩
      by_cases t5 : 4095 < classes
      · have HX : Hid (R = 3) := by unfold Hid; rw [HR3.out, if_neg (by unfold okR; simp only; omega)]
        clear HR3
        go_wp2_with fail
        go_ret
        exact ⟨by rw [HX.out]; rfl, HG0.out⟩
      have HX : Hid (R = 0) := by unfold Hid; rw [HR3.out, if_pos (by unfold okR; simp only; omega)]
      clear HR3
      go_wp2_with fail
      go_ret
      exact ⟨by rw [HX.out]; rfl, HG0.out⟩

end Go.Proofs.Ythdohdllpaijhaa.RRWrong
