/- RulesTell: the walk. -/
import Derived.Test.YthdohdllpaijhaaRRFind
import Derived.Test.YthdohdllpaijhaaRRChk
import Derived.Test.YthdohdllpaijhaaRFind
import Derived.Test.YthdohdllpaijhaaRMovP
namespace Go.Proofs.Ythdohdllpaijhaa.RTell
open Go Go.RowKit Go.Proofs.Ythdohdllpaijhaa.RMod Go.Proofs.Ythdohdllpaijhaa.RCnt Go.Proofs.Ythdohdllpaijhaa.RFnd Go.Proofs.Ythdohdllpaijhaa.RFind Go.Proofs.Ythdohdllpaijhaa.RCheck Go.Proofs.Ythdohdllpaijhaa.RWrong Go.Proofs.Ythdohdllpaijhaa.RRWrong Go.Proofs.Ythdohdllpaijhaa.RRFind Go.Proofs.Ythdohdllpaijhaa.RRChk Go.Proofs.Ythdohdllpaijhaa.RCount Go.Proofs.Ythdohdllpaijhaa.RMovP Go.Proofs.Ythdohdllpaijhaa.RAlone Go.Proofs.Ythdohdllpaijhaa.Hp Go.Proofs.Ythdohdllpaijhaa.Rd
set_option linter.unusedVariables false
set_option linter.unusedSimpArgs false

set_option maxHeartbeats 4000000 in
set_option maxRecDepth 100000 in
theorem law (r : Ru) (a1 a2 : Option Addr) (c1 c2 : Nat) (g l : List Int) (w : World) (hg63 : g.length < 9223372036854775807) (hl63 : l.length < 9223372036854775807) (hv : Ils w (.slice a1 g.length c1) g) (hl : Ils w (.slice a2 l.length c2) l) :
    Calls Try.prog 4 #[.agg #[.int .i64 r.low, .int .i64 r.high, .bool r.above, .int .i64 r.leap, .int .i64 r.classes], .slice a1 g.length c1, .slice a2 l.length c2] w
      fun e w' => e = .returned (.bool true) ∧ Hid (w.grownBy w' none) := by
  have CW := Lib.hid (fun w' hg => wrong_calls r a1 c1 g w' (Ils.grown hv hg))
  have CX := Lib.hid (fun w' hg => rwrong_calls r a1 c1 g w' (Ils.grown hv hg))
  have CK := Lib.hid (fun w' hg => check_calls r a1 a2 c1 c2 g l w' hl63 (Ils.grown hv hg) (Ils.grown hl hg))
  have CL := Lib.hid (fun w' hg => rcheck_calls r a1 a2 c1 c2 g l w' hl63 hg63 (Ils.grown hv hg) (Ils.grown hl hg))
  have CC := Lib.hid (fun w' hg => count_calls r a1 c1 g w' (Ils.grown hv hg))
  have CD := Lib.hid (fun w' hg => rcount_calls r a1 c1 g w' (Ils.grown hv hg))
  have CF := Lib.hid (fun w' hg => find_calls r a1 c1 g w' (Ils.grown hv hg))
  have CG := Lib.hid (fun w' hg => rfind_calls r a1 c1 g w' (Ils.grown hv hg))
  have HFN : Hid ((findL r g).length < 9223372036854775807) := by have := find_len r g; unfold Hid; omega
  obtain ⟨n, hn⟩ : ∃ n, g.length = n := ⟨_, rfl⟩
  obtain ⟨m, hm⟩ : ∃ m, l.length = m := ⟨_, rfl⟩
  obtain ⟨FE, hFE⟩ : ∃ x, findE r g = x := ⟨_, rfl⟩
  obtain ⟨FL, hFL⟩ : ∃ x, findL r g = x := ⟨_, rfl⟩
  obtain ⟨V, hV⟩ : ∃ x, cntV r g = x := ⟨_, rfl⟩
  obtain ⟨R, hR⟩ : ∃ x, wrongR r g = x := ⟨_, rfl⟩
  obtain ⟨E2, hE2⟩ : ∃ x, chkE r g l = x := ⟨_, rfl⟩
  obtain ⟨A2, hA2⟩ : ∃ x, chkA r g l = x := ⟨_, rfl⟩
  obtain ⟨B2, hB2⟩ : ∃ x, chkB r g l = x := ⟨_, rfl⟩
  rw [hFE, hFL] at CF CG
  rw [hV, hR] at CC CD
  rw [hR] at CW CX
  rw [hE2, hA2, hB2] at CK CL
  rw [hFL] at HFN
  rw [hn] at CF CG CC CD CK CL CW CX hg63 ⊢
  rw [hm] at CK CL hl63 ⊢
  clear hv hl hn hm hFE hFL hV hR hE2 hA2 hB2
  obtain ⟨low, high, above, leap, classes⟩ := r
  simp only at CF CG CC CD CK CL CW CX ⊢
  obtain ⟨gb, hgb⟩ : ∃ gb, w.heap.size = gb := ⟨_, rfl⟩
  have HGBE := Lib.hid hgb
  have HG0 : Hid (w.grownBy (w.alloc (.cells #[.int .i64 low, .int .i64 high, .bool above, .int .i64 leap, .int .i64 classes] 23)) none) := grown_alloc (grown_refl _ _) _
  have HR0 : Hid ((w.alloc (.cells #[.int .i64 low, .int .i64 high, .bool above, .int .i64 leap, .int .i64 classes] 23)).heap[gb]? = some (.cells #[.int .i64 low, .int .i64 high, .bool above, .int .i64 leap, .int .i64 classes] 23 (0, 0))) := by unfold Hid; rw [← hgb]; exact heap_alloc_new _ _
  obtain ⟨wa, hwa⟩ : ∃ wa, w.alloc (.cells #[.int .i64 low, .int .i64 high, .bool above, .int .i64 leap, .int .i64 classes] 23) = wa := ⟨_, rfl⟩
  rw [hwa] at HG0 HR0
  have HWA := Lib.hid hwa
  clear hgb hwa
  go_enter Try.func4, Try.ntmps4
  go_upto_region 1 with fail
  simp only [HGBE.out, HWA.out]
  go_cut [23] from 17 to 23 (fun c wx => c = .bool false ∧ Hid (wa.grownBy wx none))
  case first =>
    have hne := Mixed.Later.nonempty wa
    have k0 : ∀ n : Mixed.Later wa, n.w.cell? ⟨gb, 0, none⟩ = some (.int .i64 low) := Mixed.Later.cell (cell_of HR0.out 0)
    have k1 : ∀ n : Mixed.Later wa, n.w.cell? ⟨gb, 1, none⟩ = some (.int .i64 high) := Mixed.Later.cell (cell_of HR0.out 1)
    have k2 : ∀ n : Mixed.Later wa, n.w.cell? ⟨gb, 2, none⟩ = some (.bool above) := Mixed.Later.cell (cell_of HR0.out 2)
    have k3 : ∀ n : Mixed.Later wa, n.w.cell? ⟨gb, 3, none⟩ = some (.int .i64 leap) := Mixed.Later.cell (cell_of HR0.out 3)
    have k4 : ∀ n : Mixed.Later wa, n.w.cell? ⟨gb, 4, none⟩ = some (.int .i64 classes) := Mixed.Later.cell (cell_of HR0.out 4)
    refine Mixed.wp_region_mixed (Mixed.late wa) (fun k => k == 2 || k == 5) (by kernel_rfl) (by kernel_rfl) (Mixed.late_of (grown_drew (grown_refl _ _))) ?_
    unfold Mixed.late
    refine Mixed.wpM_quiet rfl rfl rfl ?_; intro Kx hKx; go_big_quiet_op; go_big_quiet_on
    refine Mixed.wpM_quiet rfl rfl rfl ?_; intro Kx hKx; go_big_quiet_op; go_big_quiet_on
    refine Mixed.wpM_call rfl rfl 10 _ (by go_simp; rfl) ?_
    refine (CW.out _ (grown_drew HG0.out)).mono ?_
    rintro e w1 ⟨rfl, hg1⟩
    have HG1 : Hid (wa.grownBy w1 none) := grown_trans (grown_drew (grown_refl _ _)) hg1.out
    refine ⟨_, rfl, ⟨⟨w1, HG1.out⟩, rfl⟩, ?_⟩
    go_simp
    refine Mixed.wpM_quiet rfl rfl rfl ?_; intro Kx hKx; go_big_quiet_op; go_big_quiet_on
    refine Mixed.wpM_quiet rfl rfl rfl ?_; intro Kx hKx; go_big_quiet_op; go_big_quiet_on
    refine Mixed.wpM_call rfl rfl 11 _ (by go_simp; rfl) ?_
    refine (CX.out _ (grown_trans HG0.out HG1.out)).mono ?_
    rintro e w2 ⟨rfl, hg2⟩
    have HG2 : Hid (wa.grownBy w2 none) := grown_trans HG1.out hg2.out
    refine ⟨_, rfl, ⟨⟨w2, HG2.out⟩, rfl⟩, ?_⟩
    go_simp
    refine Mixed.wpM_quiet rfl rfl rfl ?_; intro Kx hKx; go_big_quiet_op; go_big_quiet_on
    refine Mixed.wpM_nil ?_
    intro nx hnx
    clear nx hnx k0 k1 k2 k3 k4 hne
    go_wp2_with fail
    go_meet
    exact ⟨by simp, HG2.out⟩
  case rest =>
    obtain ⟨rfl, hgc⟩ := hcut
    have HG2 : Hid (w.grownBy wc none) := grown_trans HG0.out hgc.out
    have HR2 : Hid (wc.heap[gb]? = some (.cells #[.int .i64 low, .int .i64 high, .bool above, .int .i64 leap, .int .i64 classes] 23 (0, 0))) := by unfold Hid; rw [hgc.out.block gb (lt_of HR0.out) (by simp)]; exact HR0.out
    have r20 := cell_of HR2.out 0
    have r21 := cell_of HR2.out 1
    have r22 := cell_of HR2.out 2
    have r23 := cell_of HR2.out 3
    have r24 := cell_of HR2.out 4
    go_upto_region 4 with (go_at_call 12; refine (CK.out _ HG2.out).mono ?_; rintro e w3 ⟨rfl, hg3⟩)
    clear r20 r21 r22 r23 r24
    have HG3 : Hid (w.grownBy w3 none) := grown_trans HG2.out hg3.out
    have HR3 : Hid (w3.heap[gb]? = some (.cells #[.int .i64 low, .int .i64 high, .bool above, .int .i64 leap, .int .i64 classes] 23 (0, 0))) := by unfold Hid; rw [hg3.out.block gb (lt_of HR2.out) (by simp)]; exact HR2.out
    have r30 := cell_of HR3.out 0
    have r31 := cell_of HR3.out 1
    have r32 := cell_of HR3.out 2
    have r33 := cell_of HR3.out 3
    have r34 := cell_of HR3.out 4
    go_upto_region 7 with (go_at_call 13; refine (CL.out _ HG3.out).mono ?_; rintro e w4 ⟨rfl, hg4⟩)
    clear r30 r31 r32 r33 r34
    have HG4 : Hid (w.grownBy w4 none) := grown_trans HG3.out hg4.out
    have HR4 : Hid (w4.heap[gb]? = some (.cells #[.int .i64 low, .int .i64 high, .bool above, .int .i64 leap, .int .i64 classes] 23 (0, 0))) := by unfold Hid; rw [hg4.out.block gb (lt_of HR3.out) (by simp)]; exact HR3.out
    have r40 := cell_of HR4.out 0
    have r41 := cell_of HR4.out 1
    have r42 := cell_of HR4.out 2
    have r43 := cell_of HR4.out 3
    have r44 := cell_of HR4.out 4
    go_upto_region 8 with (go_at_call 8; refine (CC.out _ HG4.out).mono ?_; rintro e w5 ⟨rfl, hg5⟩)
    clear r40 r41 r42 r43 r44
    have HG5 : Hid (w.grownBy w5 none) := grown_trans HG4.out hg5.out
    have HR5 : Hid (w5.heap[gb]? = some (.cells #[.int .i64 low, .int .i64 high, .bool above, .int .i64 leap, .int .i64 classes] 23 (0, 0))) := by unfold Hid; rw [hg5.out.block gb (lt_of HR4.out) (by simp)]; exact HR4.out
    have r50 := cell_of HR5.out 0
    have r51 := cell_of HR5.out 1
    have r52 := cell_of HR5.out 2
    have r53 := cell_of HR5.out 3
    have r54 := cell_of HR5.out 4
    go_upto_region 11 with (go_at_call 14; refine (CD.out _ HG5.out).mono ?_; rintro e w6 ⟨rfl, hg6⟩)
    clear r50 r51 r52 r53 r54
    have HG6 : Hid (w.grownBy w6 none) := grown_trans HG5.out hg6.out
    have HR6 : Hid (w6.heap[gb]? = some (.cells #[.int .i64 low, .int .i64 high, .bool above, .int .i64 leap, .int .i64 classes] 23 (0, 0))) := by unfold Hid; rw [hg6.out.block gb (lt_of HR5.out) (by simp)]; exact HR5.out
    have r60 := cell_of HR6.out 0
    have r61 := cell_of HR6.out 1
    have r62 := cell_of HR6.out 2
    have r63 := cell_of HR6.out 3
    have r64 := cell_of HR6.out 4
    go_upto_region 12 with (go_at_call 9; refine (CF.out _ HG6.out).mono ?_; rintro e w7 ⟨v, rfl, hx7, hg7⟩)
    clear r60 r61 r62 r63 r64
    have HG7 : Hid (w.grownBy w7 none) := grown_trans HG6.out hg7.out
    have HR7 : Hid (w7.heap[gb]? = some (.cells #[.int .i64 low, .int .i64 high, .bool above, .int .i64 leap, .int .i64 classes] 23 (0, 0))) := by unfold Hid; rw [hg7.out.block gb (lt_of HR6.out) (by simp)]; exact HR6.out
    have r70 := cell_of HR7.out 0
    have r71 := cell_of HR7.out 1
    have r72 := cell_of HR7.out 2
    have r73 := cell_of HR7.out 3
    have r74 := cell_of HR7.out 4
    go_upto_region 13 with (go_at_call 15; refine (CG.out _ HG7.out).mono ?_; rintro e w8 ⟨v', rfl, hy8, hg8⟩)
    clear r70 r71 r72 r73 r74
    have HX8 := Lib.hid (Ils.grown hx7.out hg8.out)
    obtain ⟨a4, c4, rfl, _⟩ := sl_open HX8.out
    obtain ⟨a5, c5, rfl, _⟩ := sl_open hy8.out
    have HG8 : Hid (w.grownBy w8 none) := grown_trans HG7.out hg8.out
    have SM := Lib.hid (same_calls a4 a5 c4 c5 FL w8 HFN.out HX8.out hy8.out)
    obtain ⟨q, hq⟩ : ∃ q, FL.length = q := ⟨_, rfl⟩
    rw [hq] at SM ⊢
    clear hq HX8 hy8 hx7
    go_wp2_with (go_at_call 16; refine (SM.out).mono ?_; rintro e w9 ⟨rfl, hg9⟩)
    go_ret
    exact ⟨by simp, grown_trans HG8.out hg9.out⟩
end Go.Proofs.Ythdohdllpaijhaa.RTell
