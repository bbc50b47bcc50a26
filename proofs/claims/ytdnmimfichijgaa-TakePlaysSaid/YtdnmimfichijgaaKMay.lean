/- May, the reference's: the walk. -/
import Derived.Test.YtdnmimfichijgaaKRTn
import Derived.Test.YtdnmimfichijgaaKRWrong
import Derived.Deep.CutRange
namespace Go.Proofs.Ytdnmimfichijgaa.KMay
open Go Go.RowKit Go.Proofs.Ytdnmimfichijgaa.KMod Go.Proofs.Ytdnmimfichijgaa.KTk Go.Proofs.Ytdnmimfichijgaa.KRead Go.Proofs.Ytdnmimfichijgaa.KRWrong Go.Proofs.Ytdnmimfichijgaa.KNext Go.Proofs.Ytdnmimfichijgaa.KCells Go.Proofs.Ytdnmimfichijgaa.KOrd Go.Proofs.Ytdnmimfichijgaa.KRef Go.Proofs.Ytdnmimfichijgaa.KROk Go.Proofs.Ytdnmimfichijgaa.KStd Go.Proofs.Ytdnmimfichijgaa.KRTn Go.Proofs.Ytdnmimfichijgaa.Hp Go.Proofs.Ytdnmimfichijgaa.Rd Go.Proofs.Ytdnmimfichijgaa.Opn
set_option linter.unusedVariables false
set_option linter.unusedSimpArgs false

set_option maxHeartbeats 4000000 in
set_option maxRecDepth 100000 in
theorem may_calls (ao : Option Addr) (c : Nat) (l : List Ed) (e : Ed) (w : World) (hv : SlA 7 Ed.cells w AnyB (.slice ao l.length c) l) (hok : Okay l) (hb9 : l.length ≤ 1024) :
    Calls Try.prog 19 #[.slice ao l.length c, .agg #[.int .i64 e.do_, .int .i64 e.n, .int .i64 e.t.at_, .int .i64 e.t.long, .int .i64 e.t.lt, .int .i64 e.t.al, .int .i64 e.t.oc]] w fun r w' => r = .returned (.int .i64 (mayR l e)) ∧ Hid (w.grownBy w' none) := by
  have SC := Lib.hid (fun (w' : World) (hg : w.grownBy w' none) => standing_calls ao c l w' (hv.grown hg) hok.d hb9)
  have TC := Lib.hid (fun (w' : World) (hg : w.grownBy w' none) => rtones_calls ao c l w' (hv.grown hg) hok hb9)
  have hun := std_take hok.d l.length (Nat.le_refl _)
  rw [List.take_length] at hun
  have htl : (tonesR l).length ≤ (stdR l).1.length := lin_len' _
  have HM : Hid (mayR l e = if e.do_ = 1 then (if wrongT [e.t] ≠ 0 then wrongT [e.t] else if 1024 ≤ (tonesR l).length then 5 else 0) else if e.do_ = 2 then (if e.n < 0 ∨ ((tonesR l).length : Int) ≤ e.n then 3 else 0) else if e.do_ = 3 then (if (stdR l).1.length = 0 then 6 else 0) else if e.do_ = 4 then (if (stdR l).2.length = 0 then 6 else 0) else 1) := rfl
  obtain ⟨M, hM⟩ : ∃ M, mayR l e = M := ⟨_, rfl⟩
  rw [hM] at HM
  simp only [hM]
  obtain ⟨ln, hln⟩ : ∃ ln, l.length = ln := ⟨_, rfl⟩
  obtain ⟨un, hU⟩ : ∃ un, (stdR l).1.length = un := ⟨_, rfl⟩
  obtain ⟨vn, hV⟩ : ∃ vn, (stdR l).2.length = vn := ⟨_, rfl⟩
  obtain ⟨tn, hT⟩ : ∃ tn, (tonesR l).length = tn := ⟨_, rfl⟩
  simp only [hln, hU, hV, hT] at SC TC HM hun htl hb9 ⊢
  clear hv hok hln hU hV hT hM
  obtain ⟨D, N, ⟨ta, tl, tt, tal, to_⟩⟩ := e
  simp only at HM ⊢
  have WC := Lib.hid (fun (w' : World) => rwrong_calls (some ⟨w'.heap.size, 0, none⟩) 1 [⟨ta, tl, tt, tal, to_⟩] (w'.alloc (.cells #[.int .i64 ta, .int .i64 tl, .int .i64 tt, .int .i64 tal, .int .i64 to_] 38)) (one_tos w' ⟨ta, tl, tt, tal, to_⟩) (by simp))
  obtain ⟨R, hR⟩ : ∃ R, wrongT [⟨ta, tl, tt, tal, to_⟩] = R := ⟨_, rfl⟩
  simp only [hR] at WC HM
  clear hR
  obtain ⟨eb, heb⟩ : ∃ eb, w.heap.size = eb := ⟨_, rfl⟩
  have HEB := Lib.hid heb
  clear heb
  go_enter Try.func19, Try.ntmps19
  go_upto_region 1 with fail
  simp only [HEB.out]
  obtain ⟨w1, hw1⟩ : ∃ w1, w.alloc (.cells #[.int .i64 D, .int .i64 N, .int .i64 ta, .int .i64 tl, .int .i64 tt, .int .i64 tal, .int .i64 to_] 40) = w1 := ⟨_, rfl⟩
  have HG1 : Hid (w.grownBy w1 none) := by unfold Hid; rw [← hw1]; exact grown_alloc (grown_refl _ _) _
  have HR1 : Hid (w1.heap[eb]? = some (.cells #[.int .i64 D, .int .i64 N, .int .i64 ta, .int .i64 tl, .int .i64 tt, .int .i64 tal, .int .i64 to_] 40 (0, 0))) := by unfold Hid; rw [← hw1, ← HEB.out]; exact heap_alloc_new _ _
  simp only [hw1]
  clear hw1
  go_upto_region 2 with (go_at_call 28; refine (SC.out _ HG1.out).mono ?_; rintro ez w0 ⟨ua, uc, va, vc, rfl, hu0, hv0, hg0⟩; have HG0 : Hid (w.grownBy w0 none) := grown_trans HG1.out hg0.out; have HR0 : Hid (w0.heap[eb]? = some (.cells #[.int .i64 D, .int .i64 N, .int .i64 ta, .int .i64 tl, .int .i64 tt, .int .i64 tal, .int .i64 to_] 40 (0, 0))) := row_kept hg0.out HR1.out (by simp); clear hu0 hv0 hg0)
  obtain ⟨wf, hwf⟩ : ∃ wf : World, wf = w0 := ⟨_, rfl⟩
  subst hwf
  have q0 : wf.cell? ⟨eb, 0, none⟩ = some (.int .i64 D) := cell_of HR0.out 0
  have q1 : wf.cell? ⟨eb, 1, none⟩ = some (.int .i64 N) := cell_of HR0.out 1
  have q2 : wf.cell? ⟨eb, 2, none⟩ = some (.int .i64 ta) := cell_of HR0.out 2
  have q3 : wf.cell? ⟨eb, 3, none⟩ = some (.int .i64 tl) := cell_of HR0.out 3
  have q4 : wf.cell? ⟨eb, 4, none⟩ = some (.int .i64 tt) := cell_of HR0.out 4
  have q5 : wf.cell? ⟨eb, 5, none⟩ = some (.int .i64 tal) := cell_of HR0.out 5
  have q6 : wf.cell? ⟨eb, 6, none⟩ = some (.int .i64 to_) := cell_of HR0.out 6
  by_cases h1 : D = 1
  · rw [if_pos h1] at HM
    subst h1
    by_cases hR0 : R = 0
    · rw [if_neg (by simp [hR0])] at HM
      subst hR0
      go_upto_region 5 with (go_at_call 12; refine (WC.out _).mono ?_; rintro ez w5 ⟨rfl, hg5⟩; have HG5 : Hid (w.grownBy w5 none) := grown_trans (grown_alloc HG0.out _) hg5.out; clear hg5)
      by_cases hT : 1024 ≤ tn
      · rw [if_pos hT] at HM
        have hTi : (1024 : Int) ≤ (tn : Int) := by omega
        go_wp2_with (go_at_call 21; refine (TC.out _ HG5.out).mono ?_; rintro ez w6 ⟨oa, oc, rfl, ho6, hg6⟩)
        go_ret
        exact ⟨by rw [HM.out] <;> rfl, grown_trans HG5.out hg6.out⟩
      · rw [if_neg hT] at HM
        have hTi : ¬ (1024 : Int) ≤ (tn : Int) := by omega
        go_wp2_with (go_at_call 21; refine (TC.out _ HG5.out).mono ?_; rintro ez w6 ⟨oa, oc, rfl, ho6, hg6⟩)
        go_ret
        exact ⟨by rw [HM.out] <;> rfl, grown_trans HG5.out hg6.out⟩
    · rw [if_pos hR0] at HM
      have hRb : (R != 0) = true := by simpa using hR0
      go_wp2_with (go_at_call 12; refine (WC.out _).mono ?_; rintro ez w5 ⟨rfl, hg5⟩; have HG5 : Hid (w.grownBy w5 none) := grown_trans (grown_alloc HG0.out _) hg5.out; clear hg5)
      go_ret
      exact ⟨by rw [HM.out] <;> rfl, HG5.out⟩
  rw [if_neg h1] at HM
  by_cases h2 : D = 2
  · rw [if_pos h2] at HM
    subst h2
    clear h1
    by_cases hN0 : N < 0
    · rw [if_pos (.inl hN0)] at HM
      have hNb : decide (N < 0) = true := decide_eq_true hN0
      go_upto_region 11 with fail
      go_quiet (fail)
      go_wp2_with fail
      go_ret
      exact ⟨by rw [HM.out] <;> rfl, grown_drewN HG0.out _⟩
    have hNb : decide (N < 0) = false := decide_eq_false hN0
    have hne := Mixed.Later.nonempty wf
    have k1 : ∀ n2 : Mixed.Later wf, n2.w.cell? ⟨eb, 1, none⟩ = some (.int .i64 N) := Mixed.Later.cell q1
    go_upto_region 11 with fail
    refine Mixed.wp_region_mixed (Mixed.late wf) (fun k => k == 7) (by kernel_rfl) (by kernel_rfl) (Mixed.late_of (grown_drew (grown_refl _ _))) ?_
    unfold Mixed.late
    refine Mixed.wpM_quiet rfl rfl rfl ?_; intro Kx hKx; go_big_quiet_op; go_big_quiet_on
    refine Mixed.wpM_quiet rfl rfl rfl ?_; intro Kx hKx; go_big_quiet_op; go_big_quiet_on
    refine Mixed.wpM_quiet rfl rfl rfl ?_; intro Kx hKx; go_big_quiet_op; go_big_quiet_on
    refine Mixed.wpM_quiet rfl rfl rfl ?_; intro Kx hKx; go_big_quiet_op; go_big_quiet_on
    refine Mixed.wpM_quiet rfl rfl rfl ?_; intro Kx hKx; go_big_quiet_op; go_big_quiet_on
    refine Mixed.wpM_quiet rfl rfl rfl ?_; intro Kx hKx; go_big_quiet_op; go_big_quiet_on
    refine Mixed.wpM_quiet rfl rfl rfl ?_; intro Kx hKx; go_big_quiet_op; go_big_quiet_on
    refine Mixed.wpM_call rfl rfl 21 _ (by go_simp; rfl) ?_
    refine (TC.out _ (grown_drew HG0.out)).mono ?_
    rintro ez w5 ⟨oa, oc, rfl, ho5, hg5⟩
    have HG5 : Hid (wf.grownBy w5 none) := grown_trans (grown_drew (grown_refl _ _)) hg5.out
    refine ⟨_, rfl, ⟨⟨w5, HG5.out⟩, rfl⟩, ?_⟩
    clear hg5 ho5
    go_simp
    refine Mixed.wpM_quiet rfl rfl rfl ?_; intro Kx hKx; go_big_quiet_op; go_big_quiet_on
    refine Mixed.wpM_quiet rfl rfl rfl ?_; intro Kx hKx; go_big_quiet_op; go_big_quiet_on
    refine Mixed.wpM_quiet rfl rfl rfl ?_; intro Kx hKx; go_big_quiet_op; go_big_quiet_on
    refine Mixed.wpM_nil ?_
    intro nx hnx
    clear nx hnx k1 hne
    have HG6 : Hid (w.grownBy w5 none) := grown_trans HG0.out HG5.out
    by_cases hN1 : (tn : Int) ≤ N
    · rw [if_pos (.inr hN1)] at HM
      go_wp2_with fail
      go_ret
      exact ⟨by rw [HM.out] <;> rfl, HG6.out⟩
    · rw [if_neg (by omega)] at HM
      go_wp2_with fail
      go_ret
      exact ⟨by rw [HM.out] <;> rfl, HG6.out⟩
  rw [if_neg h2] at HM
  by_cases h3 : D = 3
  · rw [if_pos h3] at HM
    subst h3
    clear h1 h2
    by_cases hu : un = 0
    · rw [if_pos hu] at HM
      subst hu
      go_wp2_with fail
      go_ret
      exact ⟨by rw [HM.out] <;> rfl, HG0.out⟩
    · rw [if_neg hu] at HM
      have hui : ¬ (un : Int) = 0 := by omega
      go_wp2_with fail
      go_ret
      exact ⟨by rw [HM.out] <;> rfl, HG0.out⟩
  rw [if_neg h3] at HM
  by_cases h4 : D = 4
  · rw [if_pos h4] at HM
    subst h4
    clear h1 h2 h3
    by_cases hu : vn = 0
    · rw [if_pos hu] at HM
      subst hu
      go_wp2_with fail
      go_ret
      exact ⟨by rw [HM.out] <;> rfl, HG0.out⟩
    · rw [if_neg hu] at HM
      have hui : ¬ (vn : Int) = 0 := by omega
      go_wp2_with fail
      go_ret
      exact ⟨by rw [HM.out] <;> rfl, HG0.out⟩
  rw [if_neg h4] at HM
  go_wp2_with fail
  go_ret
  exact ⟨by rw [HM.out] <;> rfl, HG0.out⟩
end Go.Proofs.Ytdnmimfichijgaa.KMay
