/- RulesComplete: the walk. -/
import Derived.Test.YthdohdllpaijhaaRLaw
import Derived.Test.YthdohdllpaijhaaRFind
namespace Go.Proofs.Ythdohdllpaijhaa.RComp
open Go Go.RowKit Go.Proofs.Ythdohdllpaijhaa.RMod Go.Proofs.Ythdohdllpaijhaa.RCnt Go.Proofs.Ythdohdllpaijhaa.RMap Go.Proofs.Ythdohdllpaijhaa.RFnd Go.Proofs.Ythdohdllpaijhaa.RFind Go.Proofs.Ythdohdllpaijhaa.RCheck Go.Proofs.Ythdohdllpaijhaa.RLess Go.Proofs.Ythdohdllpaijhaa.RLaw Go.Proofs.Ythdohdllpaijhaa.RCount Go.Proofs.Ythdohdllpaijhaa.RAlone Go.Proofs.Ythdohdllpaijhaa.Hp Go.Proofs.Ythdohdllpaijhaa.Rd
set_option linter.unusedVariables false
set_option linter.unusedSimpArgs false

theorem wrong_vals (r : Ru) (g : List Int) : wrongR r g = 0 ∨ wrongR r g = 3 ∨ wrongR r g = 5 := by
  unfold wrongR
  split
  · exact .inr (.inr rfl)
  · split
    · exact .inr (.inl rfl)
    · split
      · exact .inl rfl
      · exact .inr (.inl rfl)

theorem all_facts (r : Ru) (g l : List Int) :
    (findE r g = 0 → wrongR r g = 0 ∧ chkE r g (findL r g) = 0 ∧ chkA r g (findL r g) = 0 ∧ 1 ≤ cntV r g ∧ (findL r g).length = g.length) ∧ (findE r g = 6 → wrongR r g = 0 ∧ cntV r g = 0) ∧
    (chkE r g l = 0 → chkA r g l = 0 → findE r g = 0 ∧ lessL (findL r g) l = true ∧ l.length = g.length) := by
  by_cases h0 : wrongR r g = 0
  · obtain ⟨c1, c2, c3⟩ := complete h0
    refine ⟨fun h => ⟨h0, c1 h⟩, fun h => ⟨h0, (c2 (by omega)).2⟩, fun h1 h2 => ?_⟩
    obtain ⟨c4, c5⟩ := c3 l h1 h2
    exact ⟨c4, c5, ((good_iff h0).1 ⟨h1, h2⟩).1⟩
  · have e : findE r g = wrongR r g := by unfold findE; rw [if_neg h0]
    have hv := wrong_vals r g
    refine ⟨fun h => absurd (e ▸ h) h0, fun h => by omega, fun h1 _ => ?_⟩
    unfold chkE at h1
    rw [if_neg h0] at h1
    exact absurd h1 h0

set_option maxHeartbeats 1500000 in
set_option maxRecDepth 100000 in
theorem law (r : Ru) (a1 a2 : Option Addr) (c1 c2 : Nat) (g l : List Int) (w : World) (hg63 : g.length < 9223372036854775807) (hl63 : l.length < 9223372036854775807) (hv : Ils w (.slice a1 g.length c1) g) (hl : Ils w (.slice a2 l.length c2) l) :
    Calls Try.prog 5 #[.agg #[.int .i64 r.low, .int .i64 r.high, .bool r.above, .int .i64 r.leap, .int .i64 r.classes], .slice a1 g.length c1, .slice a2 l.length c2] w
      fun e w' => e = .returned (.bool true) ∧ Hid (w.grownBy w' none) := by
  obtain ⟨f0, f1, f2⟩ := all_facts r g l
  have CF := Lib.hid (fun w' hg => find_calls r a1 c1 g w' (Ils.grown hv hg))
  have CC := Lib.hid (fun w' hg => count_calls r a1 c1 g w' (Ils.grown hv hg))
  have CK := Lib.hid (fun w' hg => check_calls r a1 a2 c1 c2 g l w' hl63 (Ils.grown hv hg) (Ils.grown hl hg))
  have CX := Lib.hid (fun w' a3 c3 (hlen : (findL r g).length = g.length) hg hx => check_calls r a1 a3 c1 c3 g (findL r g) w' (by omega) (Ils.grown hv hg) hx)
  have CL := Lib.hid (fun w' a3 c3 (hlen : (findL r g).length = l.length) hg hx => less_calls a3 a2 c3 c2 (findL r g) l w' (by omega) hlen hx (Ils.grown hl hg))
  obtain ⟨n, hn⟩ : ∃ n, g.length = n := ⟨_, rfl⟩
  obtain ⟨m, hm⟩ : ∃ m, l.length = m := ⟨_, rfl⟩
  obtain ⟨FE, hFE⟩ : ∃ x, findE r g = x := ⟨_, rfl⟩
  obtain ⟨FL, hFL⟩ : ∃ x, findL r g = x := ⟨_, rfl⟩
  obtain ⟨V, hV⟩ : ∃ x, cntV r g = x := ⟨_, rfl⟩
  obtain ⟨R, hR⟩ : ∃ x, wrongR r g = x := ⟨_, rfl⟩
  obtain ⟨E2, hE2⟩ : ∃ x, chkE r g l = x := ⟨_, rfl⟩
  obtain ⟨A2, hA2⟩ : ∃ x, chkA r g l = x := ⟨_, rfl⟩
  obtain ⟨B2, hB2⟩ : ∃ x, chkB r g l = x := ⟨_, rfl⟩
  rw [hFE, hFL] at CF
  rw [hV, hR] at CC
  rw [hE2, hA2, hB2] at CK
  rw [hFL] at CX CL
  rw [hFE, hFL, hR, hV, hn] at f0
  rw [hFE, hR, hV] at f1
  rw [hE2, hA2, hFE, hFL, hm, hn] at f2
  rw [hn] at CF CC CK CX hg63 ⊢
  rw [hm] at CK CL hl63 ⊢
  obtain ⟨XE, hXE⟩ : ∃ x, chkE r g FL = x := ⟨_, rfl⟩
  obtain ⟨XA, hXA⟩ : ∃ x, chkA r g FL = x := ⟨_, rfl⟩
  obtain ⟨XB, hXB⟩ : ∃ x, chkB r g FL = x := ⟨_, rfl⟩
  rw [hXE, hXA] at f0
  simp only [hXE, hXA, hXB] at CX
  have HF0 := Lib.hid f0
  have HF1 := Lib.hid f1
  have HF2 := Lib.hid f2
  clear f0 f1 f2 hv hl hn hm hFE hFL hV hR hE2 hA2 hB2 hXE hXA hXB
  obtain ⟨low, high, above, leap, classes⟩ := r
  simp only at CF CC CK CX ⊢
  obtain ⟨gb, hgb⟩ : ∃ gb, w.heap.size = gb := ⟨_, rfl⟩
  have HGBE := Lib.hid hgb
  have HG0 : Hid (w.grownBy (w.alloc (.cells #[.int .i64 low, .int .i64 high, .bool above, .int .i64 leap, .int .i64 classes] 23)) none) := grown_alloc (grown_refl _ _) _
  have HR0 : Hid ((w.alloc (.cells #[.int .i64 low, .int .i64 high, .bool above, .int .i64 leap, .int .i64 classes] 23)).heap[gb]? = some (.cells #[.int .i64 low, .int .i64 high, .bool above, .int .i64 leap, .int .i64 classes] 23 (0, 0))) := by unfold Hid; rw [← hgb]; exact heap_alloc_new _ _
  clear hgb
  go_enter Try.func5, Try.ntmps5
  go_upto_region 3 with (go_at_call 6; refine (alive_calls _).mono ?_; rintro e w1 ⟨rfl, hg1⟩)
  simp only [HGBE.out]
  have HG1 : Hid (w.grownBy w1 none) := grown_trans HG0.out hg1.out
  have HR1 : Hid (w1.heap[gb]? = some (.cells #[.int .i64 low, .int .i64 high, .bool above, .int .i64 leap, .int .i64 classes] 23 (0, 0))) := by
    unfold Hid; rw [hg1.out.block gb (lt_of HR0.out) (by simp)]; exact HR0.out
  have r10 := cell_of HR1.out 0
  have r11 := cell_of HR1.out 1
  have r12 := cell_of HR1.out 2
  have r13 := cell_of HR1.out 3
  have r14 := cell_of HR1.out 4
  go_upto_region 4 with (go_at_call 9; refine (CF.out _ HG1.out).mono ?_; rintro e w2 ⟨v, rfl, hx2, hg2⟩)
  have HG2 : Hid (w.grownBy w2 none) := grown_trans HG1.out hg2.out
  have HR2 : Hid (w2.heap[gb]? = some (.cells #[.int .i64 low, .int .i64 high, .bool above, .int .i64 leap, .int .i64 classes] 23 (0, 0))) := by
    unfold Hid; rw [hg2.out.block gb (lt_of HR1.out) (by simp)]; exact HR1.out
  have r20 := cell_of HR2.out 0
  have r21 := cell_of HR2.out 1
  have r22 := cell_of HR2.out 2
  have r23 := cell_of HR2.out 3
  have r24 := cell_of HR2.out 4
  clear r10 r11 r12 r13 r14 hg1
  obtain ⟨a3, c3, rfl, _⟩ := sl_open hx2.out
  go_upto_region 5 with (go_at_call 8; refine (CC.out _ HG2.out).mono ?_; rintro e w3 ⟨rfl, hg3⟩)
  have HG3 : Hid (w.grownBy w3 none) := grown_trans HG2.out hg3.out
  have HR3 : Hid (w3.heap[gb]? = some (.cells #[.int .i64 low, .int .i64 high, .bool above, .int .i64 leap, .int .i64 classes] 23 (0, 0))) := by
    unfold Hid; rw [hg3.out.block gb (lt_of HR2.out) (by simp)]; exact HR2.out
  have r30 := cell_of HR3.out 0
  have r31 := cell_of HR3.out 1
  have r32 := cell_of HR3.out 2
  have r33 := cell_of HR3.out 3
  have r34 := cell_of HR3.out 4
  have HX3 : Hid (Ils w3 (.slice a3 FL.length c3) FL) := Ils.grown hx2.out hg3.out
  clear r20 r21 r22 r23 r24 hg2
  clear hx2
  by_cases hF : FE = 0
  · obtain ⟨h1, h2, h3, h4, h5⟩ := HF0.out hF
    subst hF
    subst h1
    have CX3 := Lib.hid (CX.out w3 a3 c3 (by rw [h5]) HG3.out HX3.out)
    have HLEN := Lib.hid h5
    rw [h2, h3] at CX3
    rw [h5] at CX3 HX3 ⊢
    clear h2 h3 h5
    go_upto_region 7 with (go_at_call 12; refine (CX3.out).mono ?_; rintro e w4 ⟨rfl, hg4⟩)
    have HG4 : Hid (w.grownBy w4 none) := grown_trans HG3.out hg4.out
    have HR4 : Hid (w4.heap[gb]? = some (.cells #[.int .i64 low, .int .i64 high, .bool above, .int .i64 leap, .int .i64 classes] 23 (0, 0))) := by
      unfold Hid; rw [hg4.out.block gb (lt_of HR3.out) (by simp)]; exact HR3.out
    have r40 := cell_of HR4.out 0
    have r41 := cell_of HR4.out 1
    have r42 := cell_of HR4.out 2
    have r43 := cell_of HR4.out 3
    have r44 := cell_of HR4.out 4
    have HX4 : Hid (Ils w4 (.slice a3 n c3) FL) := Ils.grown HX3.out hg4.out
    clear r30 r31 r32 r33 r34 hg3
    by_cases hE : E2 = 0
    · by_cases hA : A2 = 0
      · obtain ⟨_, h7, h8⟩ := HF2.out hE hA
        subst hE
        subst hA
        have HLS := Lib.hid h7
        have CL2 := Lib.hid (fun w' hg hx => CL.out w' a3 c3 (by rw [HLEN.out]; exact h8.symm) hg hx)
        rw [HLEN.out, HLS.out] at CL2
        clear h7 h8
        go_wp2_with (first
          | (go_at_call 12; refine (CK.out _ HG4.out).mono ?_; rintro e w5 ⟨rfl, hg5⟩)
          | (go_at_call 17; refine (CL2.out _ (grown_trans HG4.out hg5.out) (Ils.grown HX4.out hg5.out)).mono ?_; rintro e w6 ⟨rfl, hg6⟩))
        go_ret
        exact ⟨rfl, grown_trans (grown_trans HG4.out hg5.out) hg6.out⟩
      · have hAb : (A2 != 0) = true := by simpa using hA
        subst hE
        go_wp2_with (go_at_call 12; refine (CK.out _ HG4.out).mono ?_; rintro e w5 ⟨rfl, hg5⟩)
        go_ret
        exact ⟨rfl, grown_trans HG4.out hg5.out⟩
    · have hEb : (E2 != 0) = true := by simpa using hE
      go_wp2_with (go_at_call 12; refine (CK.out _ HG4.out).mono ?_; rintro e w5 ⟨rfl, hg5⟩)
      go_ret
      exact ⟨rfl, grown_trans HG4.out hg5.out⟩
  · have hFb : (FE == 0) = false := by simpa using hF
    have hno : ¬ (E2 = 0 ∧ A2 = 0) := fun h => hF (HF2.out h.1 h.2).1
    by_cases h6 : FE = 6
    · obtain ⟨h1, h2⟩ := HF1.out h6
      subst h6
      subst h1
      subst h2
      by_cases hE : E2 = 0
      · have hA : A2 ≠ 0 := fun h => hno ⟨hE, h⟩
        have hAb : (A2 != 0) = true := by simpa using hA
        subst hE
        go_wp2_with (go_at_call 12; refine (CK.out _ HG3.out).mono ?_; rintro e w5 ⟨rfl, hg5⟩)
        go_ret
        exact ⟨rfl, grown_trans HG3.out hg5.out⟩
      · have hEb : (E2 != 0) = true := by simpa using hE
        go_wp2_with (go_at_call 12; refine (CK.out _ HG3.out).mono ?_; rintro e w5 ⟨rfl, hg5⟩)
        go_ret
        exact ⟨rfl, grown_trans HG3.out hg5.out⟩
    · have h6b : (FE == 6) = false := by simpa using h6
      by_cases hE : E2 = 0
      · have hA : A2 ≠ 0 := fun h => hno ⟨hE, h⟩
        have hAb : (A2 != 0) = true := by simpa using hA
        subst hE
        go_wp2_with (go_at_call 12; refine (CK.out _ HG3.out).mono ?_; rintro e w5 ⟨rfl, hg5⟩)
        go_ret
        exact ⟨rfl, grown_trans HG3.out hg5.out⟩
      · have hEb : (E2 != 0) = true := by simpa using hE
        go_wp2_with (go_at_call 12; refine (CK.out _ HG3.out).mono ?_; rintro e w5 ⟨rfl, hg5⟩)
        go_ret
        exact ⟨rfl, grown_trans HG3.out hg5.out⟩
end Go.Proofs.Ythdohdllpaijhaa.RComp
