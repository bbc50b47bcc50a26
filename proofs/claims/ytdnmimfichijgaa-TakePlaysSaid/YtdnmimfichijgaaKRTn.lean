/- Tones, the reference's: the walk. -/
import Derived.Test.YtdnmimfichijgaaKStd
namespace Go.Proofs.Ytdnmimfichijgaa.KRTn
open Go Go.RowKit Go.Proofs.Ytdnmimfichijgaa.KMod Go.Proofs.Ytdnmimfichijgaa.KTk Go.Proofs.Ytdnmimfichijgaa.KRead Go.Proofs.Ytdnmimfichijgaa.KLess Go.Proofs.Ytdnmimfichijgaa.KCells Go.Proofs.Ytdnmimfichijgaa.KClone Go.Proofs.Ytdnmimfichijgaa.KStep Go.Proofs.Ytdnmimfichijgaa.KOrd Go.Proofs.Ytdnmimfichijgaa.KRef Go.Proofs.Ytdnmimfichijgaa.KROk Go.Proofs.Ytdnmimfichijgaa.KStd Go.Proofs.Ytdnmimfichijgaa.Hp Go.Proofs.Ytdnmimfichijgaa.Rd Go.Proofs.Ytdnmimfichijgaa.Opn
set_option linter.unusedVariables false
set_option linter.unusedSimpArgs false

set_option maxHeartbeats 8000000 in
set_option maxRecDepth 100000 in
theorem rtones_calls (ao : Option Addr) (c : Nat) (l : List Ed) (w : World) (hv : SlA 7 Ed.cells w AnyB (.slice ao l.length c) l) (hok : Okay l) (hb9 : l.length ≤ 1024) :
    Calls Try.prog 21 #[.slice ao l.length c] w fun e w' => ∃ oa oc, e = .returned (.slice oa (tonesR l).length oc) ∧ Hid (w'.ownsRow w.heap.size 38 5 (.slice oa (tonesR l).length oc) (tonesR l).length (flC Tone.cells (tonesR l))) ∧ Hid (w.grownBy w' none) := by
  have SC := Lib.hid (standing_calls ao c l w hv hok.d hb9)
  have HOKU := Lib.hid hok.up
  have hun := std_take hok.d l.length (Nat.le_refl _)
  rw [List.take_length] at hun
  obtain ⟨U, hU⟩ : ∃ U, (stdR l).1 = U := ⟨_, rfl⟩
  have HTR : Hid (tonesR l = linR U) := by unfold Hid tonesR; rw [hU]
  simp only [HTR.out]
  rw [hU] at SC HOKU hun
  obtain ⟨ln, hln⟩ : ∃ ln, l.length = ln := ⟨_, rfl⟩
  obtain ⟨V, hV⟩ : ∃ V, (stdR l).2 = V := ⟨_, rfl⟩
  rw [hV] at SC hun
  rw [hln] at SC hun hb9 ⊢
  obtain ⟨n, hn⟩ : ∃ n, U.length = n := ⟨_, rfl⟩
  have HN := Lib.hid hn
  rw [hn] at SC hun
  have hb : n ≤ 1099511627776 := by omega
  clear hv hn hok hU hln hV HTR
  obtain ⟨i0, hi0, hz0, hz1, hz2⟩ := info_parts info38
  have hnb : (n : Int) ≤ 1099511627776 := by omega
  go_enter Try.func21, Try.ntmps21
  go_upto_region 2 with (go_at_call 28; refine (SC.out).mono ?_; rintro ez w0 ⟨ua, uc, va, vc, rfl, hu0, hv0, hg0⟩; have HG0 := Lib.hid hg0.out; have HU0 := Lib.hid hu0.out; clear hu0 hv0 hg0)
  have HV : Hid (SlA 7 Ed.cells w0 AnyB (.slice ua n uc) U) := own_sla ed_len HN.out HU0.out
  clear HU0 SC
  go_wp2_with fail
  go_loopw [5, 16] (fun v3 v9 wr => ∃ (z k : Nat) (oa : Option Addr) (oc : Nat), z ≤ n ∧ k ≤ z ∧ v3 = .slice oa k oc ∧ v9 = .int .i64 (z : Int) ∧ Hid ((linR (U.take z)).length = k) ∧ Hid (wr.ownsRow w.heap.size 38 5 (.slice oa k oc) k (flC Tone.cells (linR (U.take z)))) ∧ Hid (w0.grownBy wr none)) (fun _ v9 _ => n - (intOf v9).toNat)
  case atStart => exact ⟨0, 0, none, 0, Nat.zero_le _, Nat.le_refl _, rfl, rfl, rfl, World.ownsRow_nil _ _ _ _, grown_refl _ _⟩
  case round =>
    obtain ⟨z, k, oa, oc, hz, hkz, rfl, rfl, HOL, HO, HG⟩ := hrel
    obtain ⟨wz, hwz⟩ : ∃ wz : World, wz = wr := ⟨_, rfl⟩
    subst hwz
    by_cases hkn : z = n
    · have HF : Hid (U.take z = U) := by unfold Hid; rw [hkn, List.take_of_length_le (by rw [HN.out]; exact Nat.le_refl _)]
      have hk2 := hkn.symm
      subst hk2
      clear hkn
      rw [HF.out] at HOL HO
      go_wp2_with fail
      go_ret
      rw [HOL.out]
      exact ⟨_, _, rfl, HO.out, grown_trans HG0.out HG.out⟩
    have hkl : (z : Int) < (n : Int) := by omega
    have hzn : z < n := by omega
    obtain ⟨e, he⟩ : ∃ e, U[z]? = some e := ⟨U[z]'(by rw [HN.out]; omega), List.getElem?_eq_getElem _⟩
    obtain ⟨b, off, rfl, _, hrg⟩ := sla_at HV.out he
    have HTK0 : Hid (linR (U.take (z + 1)) = lin1 (linR (U.take z)) e) := by
      unfold Hid
      rw [List.take_add_one, he]
      simp only [Option.toList]
      exact lin_snoc _ _
    have HCUT := Lib.hid (HOKU.out z e he)
    clear he
    obtain ⟨L, hL⟩ : ∃ L, linR (U.take z) = L := ⟨_, rfl⟩
    rw [hL] at HTK0 HOL HO HCUT
    clear hL
    rw [HOL.out] at HCUT
    obtain ⟨D, N, ⟨ta, tl, tt, tal, to_⟩⟩ := e
    have hwz : IntKind.i64.wrap ((z : Int) + 1) = (z : Int) + 1 := IntWalk.i64_in _ (by omega)
    have e0 : wz.cell? ⟨b, off + z * 7, none⟩ = some (.int .i64 D) := grown_cell HG.out (hrg 0 _ rfl) (by simp)
    have e1 : wz.cell? ⟨b, off + z * 7 + 1, none⟩ = some (.int .i64 N) := grown_cell HG.out (hrg 1 _ rfl) (by simp)
    have e2 : wz.cell? ⟨b, off + z * 7 + 2, none⟩ = some (.int .i64 ta) := grown_cell HG.out (hrg 2 _ rfl) (by simp)
    have e3 : wz.cell? ⟨b, off + z * 7 + 3, none⟩ = some (.int .i64 tl) := grown_cell HG.out (hrg 3 _ rfl) (by simp)
    have e4 : wz.cell? ⟨b, off + z * 7 + 4, none⟩ = some (.int .i64 tt) := grown_cell HG.out (hrg 4 _ rfl) (by simp)
    have e5 : wz.cell? ⟨b, off + z * 7 + 5, none⟩ = some (.int .i64 tal) := grown_cell HG.out (hrg 5 _ rfl) (by simp)
    have e6 : wz.cell? ⟨b, off + z * 7 + 6, none⟩ = some (.int .i64 to_) := grown_cell HG.out (hrg 6 _ rfl) (by simp)
    clear hrg
    obtain ⟨eb, heb⟩ : ∃ eb, wz.heap.size = eb := ⟨_, rfl⟩
    have HEB := Lib.hid heb
    clear heb
    go_upto_region 6 with fail
    simp only [HEB.out]
    obtain ⟨w1, hw1⟩ : ∃ w1, wz.alloc (.cells #[.int .i64 D, .int .i64 N, .int .i64 ta, .int .i64 tl, .int .i64 tt, .int .i64 tal, .int .i64 to_] 40) = w1 := ⟨_, rfl⟩
    have HG1 : Hid (w.grownBy w1 none) := by unfold Hid; rw [← hw1]; exact grown_alloc (grown_trans HG0.out HG.out) _
    have HGW0 : Hid (w0.grownBy w1 none) := by unfold Hid; rw [← hw1]; exact grown_alloc HG.out _
    have HR1 : Hid (w1.heap[eb]? = some (.cells #[.int .i64 D, .int .i64 N, .int .i64 ta, .int .i64 tl, .int .i64 tt, .int .i64 tal, .int .i64 to_] 40 (0, 0))) := by unfold Hid; rw [← hw1, ← HEB.out]; exact heap_alloc_new _ _
    have HO1 : Hid (w1.ownsRow w.heap.size 38 5 (.slice oa k oc) k (flC Tone.cells L)) := by unfold Hid; rw [← hw1]; exact own_kept HO.out (grown_alloc (grown_refl _ _) _)
    simp only [hw1]
    clear hw1 e0 e1 e2 e3 e4 e5 e6 HO
    have HLT : Hid (Tos w1 (.slice oa k oc) L) := by
      have h9 : w1.ownsRow w.heap.size 38 5 (.slice oa k oc) L.length (flC Tone.cells L) := by rw [HOL.out]; exact HO1.out
      exact sla_of_own tone_len h9 AnyB (fun _ _ => trivial)
    have q0 : w1.cell? ⟨eb, 0, none⟩ = some (.int .i64 D) := cell_of HR1.out 0
    by_cases hD : D = 1
    · have HTK : Hid (linR (U.take (z + 1)) = insR L ⟨ta, tl, tt, tal, to_⟩) := by unfold Hid; rw [HTK0.out]; unfold lin1; rw [if_pos hD]
      subst hD
      have HIR : Hid (insF L ⟨ta, tl, tt, tal, to_⟩ = insF (L.drop 0) ⟨ta, tl, tt, tal, to_⟩ + 0) := rfl
      clear HTK0 HCUT
      go_wp2_with fail
      clear q0
      go_loopw [8] (fun v6 wr => ∃ j : Nat, j ≤ k ∧ v6 = .int .i64 (j : Int) ∧ Hid (insF L ⟨ta, tl, tt, tal, to_⟩ = insF (L.drop j) ⟨ta, tl, tt, tal, to_⟩ + j) ∧ Hid (w1.grownBy wr none)) (fun v6 _ => k - (intOf v6).toNat)
      case atStart => exact ⟨0, Nat.zero_le _, rfl, HIR.out, grown_refl _ _⟩
      case round =>
        obtain ⟨j, hj, rfl, HJ, HGJ⟩ := hrel
        obtain ⟨wy, hwy⟩ : ∃ wy : World, wy = wr := ⟨_, rfl⟩
        subst hwy
        have HRY : Hid (wy.heap[eb]? = some (.cells #[.int .i64 1, .int .i64 N, .int .i64 ta, .int .i64 tl, .int .i64 tt, .int .i64 tal, .int .i64 to_] 40 (0, 0))) := row_kept HGJ.out HR1.out (by simp)
        by_cases hjk : j = k
        · have HIN : Hid (insF L ⟨ta, tl, tt, tal, to_⟩ = k) := by
            unfold Hid
            rw [HJ.out, hjk, List.drop_of_length_le (by rw [HOL.out]; exact Nat.le_refl _)]
            simp [insF]
          have hjb : decide ((j : Int) < (k : Int)) = false := decide_eq_false (by omega)
          have hjc : decide (j < k) = false := decide_eq_false (by omega)
          have hjn : ¬ (j : Int) < (k : Int) := by omega
          have HJK := Lib.hid hjk
          clear hjk
          go_upto_region 8 with fail
          go_quiet (fail)
          go_wp2_with fail
          have hjk := HJK.out
          clear hjb hjc hjn HJK
          subst hjk
          obtain ⟨wf, hwf⟩ : ∃ wf, wy.drewN nq = wf := ⟨_, rfl⟩
          have HGF : Hid (w1.grownBy wf none) := by unfold Hid; rw [← hwf]; exact grown_drewN HGJ.out _
          have HRF : Hid (wf.heap[eb]? = some (.cells #[.int .i64 1, .int .i64 N, .int .i64 ta, .int .i64 tl, .int .i64 tt, .int .i64 tal, .int .i64 to_] 40 (0, 0))) := by unfold Hid; rw [← hwf]; exact HRY.out
          have hjk9 : j ≤ j := Nat.le_refl _
          obtain ⟨kk, hkk⟩ : ∃ kk, j = kk := ⟨_, rfl⟩
          simp only [hwf]
          clear hwf HRY HGJ hkk kk
          have HIL : Hid (insR L ⟨ta, tl, tt, tal, to_⟩ = L.take j ++ ⟨ta, tl, tt, tal, to_⟩ :: L.drop j) := by unfold Hid insR; rw [HIN.out]
          have hML : L.length = j := HOL.out
          have HMB : Hid (j + 1 ≤ n) := by unfold Hid; omega
          have HT1 : Hid (Tos wf (.slice oa j oc) (L.take j)) := (sla_take HLT.out hML hjk9).grown HGF.out
          have HLF : Hid (Tos wf (.slice oa j oc) L) := HLT.out.grown HGF.out
          have HGW : Hid (w.grownBy wf none) := grown_trans HG1.out HGF.out
          have hjmi : (j : Int) ≤ (j : Int) := by omega
          have HJL : Hid ((flC Tone.cells (L.take j)).length = j * 5) := by unfold Hid; rw [flC_len tone_len, List.length_take, Nat.min_eq_left (by omega)]
          have HDL : Hid ((flC Tone.cells (L.drop j)).length = (0) * 5) := by unfold Hid; rw [flC_len tone_len, List.length_drop, hML]; try simp
          have HMN : Hid (j ≤ 1099511627776) := by unfold Hid; omega
          have HTBL : Hid (eb < wf.heap.size) := lt_of HRF.out
          have qa0 : ∀ o, (wf.alloc o).drew.cell? ⟨eb, 2, none⟩ = some (.int .i64 ta) := fun o => cell_of (row_kept (grown_alloc_drew wf o) HRF.out (by simp)) 2
          have qa1 : ∀ o, (wf.alloc o).drew.cell? ⟨eb, 3, none⟩ = some (.int .i64 tl) := fun o => cell_of (row_kept (grown_alloc_drew wf o) HRF.out (by simp)) 3
          have qa2 : ∀ o, (wf.alloc o).drew.cell? ⟨eb, 4, none⟩ = some (.int .i64 tt) := fun o => cell_of (row_kept (grown_alloc_drew wf o) HRF.out (by simp)) 4
          have qa3 : ∀ o, (wf.alloc o).drew.cell? ⟨eb, 5, none⟩ = some (.int .i64 tal) := fun o => cell_of (row_kept (grown_alloc_drew wf o) HRF.out (by simp)) 5
          have qa4 : ∀ o, (wf.alloc o).drew.cell? ⟨eb, 6, none⟩ = some (.int .i64 to_) := fun o => cell_of (row_kept (grown_alloc_drew wf o) HRF.out (by simp)) 6
          have qd0 : wf.drew.cell? ⟨eb, 2, none⟩ = some (.int .i64 ta) := cell_of HRF.out 2
          have qd1 : wf.drew.cell? ⟨eb, 3, none⟩ = some (.int .i64 tl) := cell_of HRF.out 3
          have qd2 : wf.drew.cell? ⟨eb, 4, none⟩ = some (.int .i64 tt) := cell_of HRF.out 4
          have qd3 : wf.drew.cell? ⟨eb, 5, none⟩ = some (.int .i64 tal) := cell_of HRF.out 5
          have qd4 : wf.drew.cell? ⟨eb, 6, none⟩ = some (.int .i64 to_) := cell_of HRF.out 6
          have hown := HO1.out.2
          clear hML
          rcases hown with ⟨h, h0⟩ | ⟨g, cap, cur, hv, _, _, hnc, _⟩
          · simp only [Value.slice.injEq] at h
            obtain ⟨rfl, hM0, rfl⟩ := h
            subst hM0
            have hdr : L.drop 0 = [] := List.drop_of_length_le (by rw [HOL.out]; exact Nat.le_refl _)
            have HT2 : Hid (Tos wf (.slice none 0 0) (L.drop 0)) := by unfold Hid; rw [hdr]; exact .inr ⟨_, _, rfl, rfl⟩
            clear HO1 HLT hdr
            go_region_law (first
              | (refine step_append_emp rfl _ _ 30 rfl wf.heap.size 38 i0 (.agg #[.int .i64 0, .int .i64 0, .int .i64 0, .int .i64 0, .int .i64 0]) 5 40 Try.underlying30 hi0 hz0 hz1 hz2 rfl (by decide) _ rfl (by first | exact alloc2_old _ _ _ | exact alloc2_new _ _ _ | exact heap_alloc_new _ _) (by simp) (none) 0 (0) (flC Tone.cells (L.take 0)) rfl HJL.out (news_tones (HT1.out.grown (by repeat (first | exact grown_refl _ _ | refine grown_alloc ?_ _ | refine grown_drew ?_)))) (tone_one _) (by have := HMN.out; unfold maxLen; omega) (by have := HMN.out; omega) (by first | (simp; done) | (simp; omega)) ?_; intro oa1 oc1 w1' ho1 hg1; have HO1_ := Lib.hid ho1; have HG1_ : Hid (wf.grownBy w1' none) := grown_new2 (by repeat (first | exact grown_refl _ _ | refine grown_alloc ?_ _ | refine grown_drew ?_)) hg1 (by simp); have hr9 := row_kept HG1_.out HRF.out (by simp); have r0 := cell_of hr9 2; have r1 := cell_of hr9 3; have r2 := cell_of hr9 4; have r3 := cell_of hr9 5; have r4 := cell_of hr9 6; clear hr9 ho1; first | have HB_ := Lib.hid (row_kept hg1 (alloc2_old wf.drew (.cells #[.int .i64 ta, .int .i64 tl, .int .i64 tt, .int .i64 tal, .int .i64 to_] 38) _) (by simp)) | have HB_ := Lib.hid (row_kept hg1 (alloc2_new wf.drew _ (.cells #[.int .i64 ta, .int .i64 tl, .int .i64 tt, .int .i64 tal, .int .i64 to_] 38)) (by simp)) | skip)
              | (refine step_append_in rfl _ _ 30 rfl wf.heap.size 38 i0 (.agg #[.int .i64 0, .int .i64 0, .int .i64 0, .int .i64 0, .int .i64 0]) 5 40 Try.underlying30 hi0 hz0 hz1 hz2 rfl (by decide) (.slice oa1 0 oc1) 0 (flC Tone.cells (L.take 0)) rfl (by first | exact HO1_.out | exact own_kept HO1_.out (grown_alloc (grown_refl _ _) _)) (some ⟨_, 0, none⟩) 1 1 [.int .i64 ta, .int .i64 tl, .int .i64 tt, .int .i64 tal, .int .i64 to_] rfl rfl (news_row (by first | exact heap_alloc_new _ _ | exact HB_.out)) (by simp [Value.oneCell']) (by have := HMN.out; unfold maxLen; omega) (by have := HMN.out; omega) (by first | exact HG1_.out.size | exact Nat.le_trans HG1_.out.size (by simp)) ?_; intro oa2 oc2 w2' ho2 hg2 hb2; have HO2_ := Lib.hid ho2; have HG2_ : Hid (wf.grownBy w2' none) := grown_own (by first | exact HG1_.out | exact grown_alloc HG1_.out _) (by first | exact HO1_.out | exact own_kept HO1_.out (grown_alloc (grown_refl _ _) _)) (Nat.le_refl _) hg2; clear ho2 hg2 hb2)
              | (refine step_append_in rfl _ _ 30 rfl wf.heap.size 38 i0 (.agg #[.int .i64 0, .int .i64 0, .int .i64 0, .int .i64 0, .int .i64 0]) 5 40 Try.underlying30 hi0 hz0 hz1 hz2 rfl (by decide) (.slice oa2 (0 + 1) oc2) (0 + 1) (flC Tone.cells (L.take 0) ++ [.int .i64 ta, .int .i64 tl, .int .i64 tt, .int .i64 tal, .int .i64 to_]) rfl HO2_.out (none) (0) (0) (flC Tone.cells (L.drop 0)) rfl HDL.out (news_tones (HT2.out.grown HG2_.out)) (tone_one _) (by have := HMN.out; unfold maxLen; omega) (by have := HMN.out; omega) HG2_.out.size ?_; intro oa3 oc3 w3' ho3 hg3 hb3; have HO3_ := Lib.hid ho3; have HG3_ : Hid (wf.grownBy w3' none) := grown_own HG2_.out HO2_.out (Nat.le_refl _) hg3; clear ho3 hg3 hb3))
            all_goals
              have HFL : Hid (flC Tone.cells (insR L ⟨ta, tl, tt, tal, to_⟩) = flC Tone.cells (L.take 0) ++ [.int .i64 ta, .int .i64 tl, .int .i64 tt, .int .i64 tal, .int .i64 to_] ++ flC Tone.cells (L.drop 0)) := by
                unfold Hid
                rw [HIL.out, flC_append, List.append_assoc]
                rfl
              have HO4 : Hid (w3'.ownsRow w.heap.size 38 5 (.slice oa3 (0 + 1) oc3) (0 + 1) (flC Tone.cells (insR L ⟨ta, tl, tt, tal, to_⟩))) := by
                unfold Hid
                rw [HFL.out]
                have h := HO3_.out
                rw [show 0 + 1 + (0) = 0 + 1 from by omega] at h
                exact KWith.own_mono h HGW.out.size
              have HLN : Hid ((insR L ⟨ta, tl, tt, tal, to_⟩).length = 0 + 1) := by unfold Hid; rw [insR_len, HOL.out]
              have hwk : IntKind.i64.wrap ((0 : Int) + 1) = (0 : Int) + 1 := IntWalk.i64_in _ (by omega)
              have hlen : 0 + 1 + (0) = 0 + 1 := by omega
              try simp only [hlen]
              have HLEN := Lib.hid hlen
              clear hlen
              go_wp2_with fail
              refine ⟨?_, by simp [intOf]; omega⟩
              first
                | exact ⟨z + 1, 0 + 1, oa3, oc3, by omega, by omega, rfl, rfl, by rw [HTK.out]; exact HLN.out, by rw [HTK.out]; exact HO4.out, (grown_trans HGW0.out (grown_trans HGF.out HG3_.out))⟩
                | (repeat apply Exists.intro
                   refine ⟨?_, rfl⟩
                   exact ⟨z + 1, 0 + 1, oa3, oc3, by omega, by omega, rfl, rfl, by rw [HTK.out]; exact HLN.out, by rw [HTK.out]; exact HO4.out, (grown_trans HGW0.out (grown_trans HGF.out HG3_.out))⟩)
          simp only [Value.slice.injEq, Option.some.injEq, Addr.mk.injEq] at hv
          obtain ⟨rfl, _, rfl⟩ := hv
          have hMci : (j : Int) ≤ (oc : Int) := by omega
          have hjoc : (j : Int) ≤ (oc : Int) := by omega
          by_cases hjo : oc = j
          · subst hjo
            have hdr : L.drop oc = [] := List.drop_of_length_le (by rw [HOL.out]; exact Nat.le_refl _)
            have HT2 : Hid (Tos wf (.slice (some ⟨g, 0, none⟩) 0 0) (L.drop oc)) := by unfold Hid; rw [hdr]; exact .inr ⟨_, _, rfl, rfl⟩
            clear HO1 HLT hdr
            go_region_law (first
              | (refine step_append_emp rfl _ _ 30 rfl wf.heap.size 38 i0 (.agg #[.int .i64 0, .int .i64 0, .int .i64 0, .int .i64 0, .int .i64 0]) 5 40 Try.underlying30 hi0 hz0 hz1 hz2 rfl (by decide) _ rfl (by first | exact alloc2_old _ _ _ | exact alloc2_new _ _ _ | exact heap_alloc_new _ _) (by simp) (some ⟨g, 0, none⟩) oc (oc) (flC Tone.cells (L.take oc)) rfl HJL.out (news_tones (HT1.out.grown (by repeat (first | exact grown_refl _ _ | refine grown_alloc ?_ _ | refine grown_drew ?_)))) (tone_one _) (by have := HMN.out; unfold maxLen; omega) (by have := HMN.out; omega) (by first | (simp; done) | (simp; omega)) ?_; intro oa1 oc1 w1' ho1 hg1; have HO1_ := Lib.hid ho1; have HG1_ : Hid (wf.grownBy w1' none) := grown_new2 (by repeat (first | exact grown_refl _ _ | refine grown_alloc ?_ _ | refine grown_drew ?_)) hg1 (by simp); have hr9 := row_kept HG1_.out HRF.out (by simp); have r0 := cell_of hr9 2; have r1 := cell_of hr9 3; have r2 := cell_of hr9 4; have r3 := cell_of hr9 5; have r4 := cell_of hr9 6; clear hr9 ho1; first | have HB_ := Lib.hid (row_kept hg1 (alloc2_old wf.drew (.cells #[.int .i64 ta, .int .i64 tl, .int .i64 tt, .int .i64 tal, .int .i64 to_] 38) _) (by simp)) | have HB_ := Lib.hid (row_kept hg1 (alloc2_new wf.drew _ (.cells #[.int .i64 ta, .int .i64 tl, .int .i64 tt, .int .i64 tal, .int .i64 to_] 38)) (by simp)) | skip)
              | (refine step_append_in rfl _ _ 30 rfl wf.heap.size 38 i0 (.agg #[.int .i64 0, .int .i64 0, .int .i64 0, .int .i64 0, .int .i64 0]) 5 40 Try.underlying30 hi0 hz0 hz1 hz2 rfl (by decide) (.slice oa1 oc oc1) oc (flC Tone.cells (L.take oc)) rfl (by first | exact HO1_.out | exact own_kept HO1_.out (grown_alloc (grown_refl _ _) _)) (some ⟨_, 0, none⟩) 1 1 [.int .i64 ta, .int .i64 tl, .int .i64 tt, .int .i64 tal, .int .i64 to_] rfl rfl (news_row (by first | exact heap_alloc_new _ _ | exact HB_.out)) (by simp [Value.oneCell']) (by have := HMN.out; unfold maxLen; omega) (by have := HMN.out; omega) (by first | exact HG1_.out.size | exact Nat.le_trans HG1_.out.size (by simp)) ?_; intro oa2 oc2 w2' ho2 hg2 hb2; have HO2_ := Lib.hid ho2; have HG2_ : Hid (wf.grownBy w2' none) := grown_own (by first | exact HG1_.out | exact grown_alloc HG1_.out _) (by first | exact HO1_.out | exact own_kept HO1_.out (grown_alloc (grown_refl _ _) _)) (Nat.le_refl _) hg2; clear ho2 hg2 hb2)
              | (refine step_append_in rfl _ _ 30 rfl wf.heap.size 38 i0 (.agg #[.int .i64 0, .int .i64 0, .int .i64 0, .int .i64 0, .int .i64 0]) 5 40 Try.underlying30 hi0 hz0 hz1 hz2 rfl (by decide) (.slice oa2 (oc + 1) oc2) (oc + 1) (flC Tone.cells (L.take oc) ++ [.int .i64 ta, .int .i64 tl, .int .i64 tt, .int .i64 tal, .int .i64 to_]) rfl HO2_.out (some ⟨g, 0, none⟩) (0) (0) (flC Tone.cells (L.drop oc)) rfl HDL.out (news_tones (HT2.out.grown HG2_.out)) (tone_one _) (by have := HMN.out; unfold maxLen; omega) (by have := HMN.out; omega) HG2_.out.size ?_; intro oa3 oc3 w3' ho3 hg3 hb3; have HO3_ := Lib.hid ho3; have HG3_ : Hid (wf.grownBy w3' none) := grown_own HG2_.out HO2_.out (Nat.le_refl _) hg3; clear ho3 hg3 hb3))
            all_goals
              have HFL : Hid (flC Tone.cells (insR L ⟨ta, tl, tt, tal, to_⟩) = flC Tone.cells (L.take oc) ++ [.int .i64 ta, .int .i64 tl, .int .i64 tt, .int .i64 tal, .int .i64 to_] ++ flC Tone.cells (L.drop oc)) := by
                unfold Hid
                rw [HIL.out, flC_append, List.append_assoc]
                rfl
              have HO4 : Hid (w3'.ownsRow w.heap.size 38 5 (.slice oa3 (oc + 1) oc3) (oc + 1) (flC Tone.cells (insR L ⟨ta, tl, tt, tal, to_⟩))) := by
                unfold Hid
                rw [HFL.out]
                have h := HO3_.out
                rw [show oc + 1 + (0) = oc + 1 from by omega] at h
                exact KWith.own_mono h HGW.out.size
              have HLN : Hid ((insR L ⟨ta, tl, tt, tal, to_⟩).length = oc + 1) := by unfold Hid; rw [insR_len, HOL.out]
              have hwk : IntKind.i64.wrap ((oc : Int) + 1) = (oc : Int) + 1 := IntWalk.i64_in _ (by omega)
              have hlen : oc + 1 + (0) = oc + 1 := by omega
              try simp only [hlen]
              have HLEN := Lib.hid hlen
              clear hlen
              go_wp2_with fail
              refine ⟨?_, by simp [intOf]; omega⟩
              first
                | exact ⟨z + 1, oc + 1, oa3, oc3, by omega, by omega, rfl, rfl, by rw [HTK.out]; exact HLN.out, by rw [HTK.out]; exact HO4.out, (grown_trans HGW0.out (grown_trans HGF.out HG3_.out))⟩
                | (repeat apply Exists.intro
                   refine ⟨?_, rfl⟩
                   exact ⟨z + 1, oc + 1, oa3, oc3, by omega, by omega, rfl, rfl, by rw [HTK.out]; exact HLN.out, by rw [HTK.out]; exact HO4.out, (grown_trans HGW0.out (grown_trans HGF.out HG3_.out))⟩)
          have HT2 : Hid (Tos wf (.slice (some ⟨g, j * 5, none⟩) (0) (oc - j)) (L.drop j)) := by
            rw [List.drop_of_length_le (by rw [HOL.out]; exact Nat.le_refl _)]
            exact .inr ⟨_, _, rfl, rfl⟩
          have hjo3 : ¬ (oc : Int) = (j : Int) := by omega
          clear HO1 HLT
          go_region_law (first
            | (refine step_append_emp rfl _ _ 30 rfl wf.heap.size 38 i0 (.agg #[.int .i64 0, .int .i64 0, .int .i64 0, .int .i64 0, .int .i64 0]) 5 40 Try.underlying30 hi0 hz0 hz1 hz2 rfl (by decide) _ rfl (by first | exact alloc2_old _ _ _ | exact alloc2_new _ _ _ | exact heap_alloc_new _ _) (by simp) (some ⟨g, 0, none⟩) j (oc) (flC Tone.cells (L.take j)) rfl HJL.out (news_tones (HT1.out.grown (by repeat (first | exact grown_refl _ _ | refine grown_alloc ?_ _ | refine grown_drew ?_)))) (tone_one _) (by have := HMN.out; unfold maxLen; omega) (by have := HMN.out; omega) (by first | (simp; done) | (simp; omega)) ?_; intro oa1 oc1 w1' ho1 hg1; have HO1_ := Lib.hid ho1; have HG1_ : Hid (wf.grownBy w1' none) := grown_new2 (by repeat (first | exact grown_refl _ _ | refine grown_alloc ?_ _ | refine grown_drew ?_)) hg1 (by simp); have hr9 := row_kept HG1_.out HRF.out (by simp); have r0 := cell_of hr9 2; have r1 := cell_of hr9 3; have r2 := cell_of hr9 4; have r3 := cell_of hr9 5; have r4 := cell_of hr9 6; clear hr9 ho1; first | have HB_ := Lib.hid (row_kept hg1 (alloc2_old wf.drew (.cells #[.int .i64 ta, .int .i64 tl, .int .i64 tt, .int .i64 tal, .int .i64 to_] 38) _) (by simp)) | have HB_ := Lib.hid (row_kept hg1 (alloc2_new wf.drew _ (.cells #[.int .i64 ta, .int .i64 tl, .int .i64 tt, .int .i64 tal, .int .i64 to_] 38)) (by simp)) | skip)
            | (refine step_append_in rfl _ _ 30 rfl wf.heap.size 38 i0 (.agg #[.int .i64 0, .int .i64 0, .int .i64 0, .int .i64 0, .int .i64 0]) 5 40 Try.underlying30 hi0 hz0 hz1 hz2 rfl (by decide) (.slice oa1 j oc1) j (flC Tone.cells (L.take j)) rfl (by first | exact HO1_.out | exact own_kept HO1_.out (grown_alloc (grown_refl _ _) _)) (some ⟨_, 0, none⟩) 1 1 [.int .i64 ta, .int .i64 tl, .int .i64 tt, .int .i64 tal, .int .i64 to_] rfl rfl (news_row (by first | exact heap_alloc_new _ _ | exact HB_.out)) (by simp [Value.oneCell']) (by have := HMN.out; unfold maxLen; omega) (by have := HMN.out; omega) (by first | exact HG1_.out.size | exact Nat.le_trans HG1_.out.size (by simp)) ?_; intro oa2 oc2 w2' ho2 hg2 hb2; have HO2_ := Lib.hid ho2; have HG2_ : Hid (wf.grownBy w2' none) := grown_own (by first | exact HG1_.out | exact grown_alloc HG1_.out _) (by first | exact HO1_.out | exact own_kept HO1_.out (grown_alloc (grown_refl _ _) _)) (Nat.le_refl _) hg2; clear ho2 hg2 hb2)
            | (refine step_append_in rfl _ _ 30 rfl wf.heap.size 38 i0 (.agg #[.int .i64 0, .int .i64 0, .int .i64 0, .int .i64 0, .int .i64 0]) 5 40 Try.underlying30 hi0 hz0 hz1 hz2 rfl (by decide) (.slice oa2 (j + 1) oc2) (j + 1) (flC Tone.cells (L.take j) ++ [.int .i64 ta, .int .i64 tl, .int .i64 tt, .int .i64 tal, .int .i64 to_]) rfl HO2_.out (some ⟨g, j * 5, none⟩) (0) (oc - j) (flC Tone.cells (L.drop j)) rfl HDL.out (news_tones (HT2.out.grown HG2_.out)) (tone_one _) (by have := HMN.out; unfold maxLen; omega) (by have := HMN.out; omega) HG2_.out.size ?_; intro oa3 oc3 w3' ho3 hg3 hb3; have HO3_ := Lib.hid ho3; have HG3_ : Hid (wf.grownBy w3' none) := grown_own HG2_.out HO2_.out (Nat.le_refl _) hg3; clear ho3 hg3 hb3))
          all_goals
            have HFL : Hid (flC Tone.cells (insR L ⟨ta, tl, tt, tal, to_⟩) = flC Tone.cells (L.take j) ++ [.int .i64 ta, .int .i64 tl, .int .i64 tt, .int .i64 tal, .int .i64 to_] ++ flC Tone.cells (L.drop j)) := by
              unfold Hid
              rw [HIL.out, flC_append, List.append_assoc]
              rfl
            have HO4 : Hid (w3'.ownsRow w.heap.size 38 5 (.slice oa3 (j + 1) oc3) (j + 1) (flC Tone.cells (insR L ⟨ta, tl, tt, tal, to_⟩))) := by
              unfold Hid
              rw [HFL.out]
              have h := HO3_.out
              rw [show j + 1 + (0) = j + 1 from by omega] at h
              exact KWith.own_mono h HGW.out.size
            have HLN : Hid ((insR L ⟨ta, tl, tt, tal, to_⟩).length = j + 1) := by unfold Hid; rw [insR_len, HOL.out]
            have hwk : IntKind.i64.wrap ((j : Int) + 1) = (j : Int) + 1 := IntWalk.i64_in _ (by omega)
            have hlen : j + 1 + (0) = j + 1 := by omega
            try simp only [hlen]
            have HLEN := Lib.hid hlen
            clear hlen
            go_wp2_with fail
            refine ⟨?_, by simp [intOf]; omega⟩
            first
              | exact ⟨z + 1, j + 1, oa3, oc3, by omega, by omega, rfl, rfl, by rw [HTK.out]; exact HLN.out, by rw [HTK.out]; exact HO4.out, (grown_trans HGW0.out (grown_trans HGF.out HG3_.out))⟩
              | (repeat apply Exists.intro
                 refine ⟨?_, rfl⟩
                 exact ⟨z + 1, j + 1, oa3, oc3, by omega, by omega, rfl, rfl, by rw [HTK.out]; exact HLN.out, by rw [HTK.out]; exact HO4.out, (grown_trans HGW0.out (grown_trans HGF.out HG3_.out))⟩)
        have hjl : j < k := by omega
        have hjli : (j : Int) < (k : Int) := by omega
        obtain ⟨x, hx⟩ : ∃ x, L[j]? = some x := ⟨L[j]'(by rw [HOL.out]; exact hjl), List.getElem?_eq_getElem _⟩
        obtain ⟨b2, o2, rfl, _, hrg⟩ := sla_at HLT.out hx
        have HDX : Hid (L.drop j = x :: L.drop (j + 1)) := by
          unfold Hid
          obtain ⟨hh, he⟩ := List.getElem?_eq_some_iff.1 hx
          rw [List.drop_eq_getElem_cons hh, he]
        obtain ⟨xa, xl, xt, xal, xo⟩ := x
        have hjb : decide ((j : Int) < (k : Int)) = true := decide_eq_true hjli
        have hjc : decide (j < k) = true := decide_eq_true hjl
        have hne := Mixed.Later.nonempty wy
        have k0 : ∀ n2 : Mixed.Later wy, n2.w.cell? ⟨eb, 2, none⟩ = some (.int .i64 ta) := Mixed.Later.cell (cell_of HRY.out 2)
        have k1 : ∀ n2 : Mixed.Later wy, n2.w.cell? ⟨eb, 3, none⟩ = some (.int .i64 tl) := Mixed.Later.cell (cell_of HRY.out 3)
        have k2 : ∀ n2 : Mixed.Later wy, n2.w.cell? ⟨eb, 4, none⟩ = some (.int .i64 tt) := Mixed.Later.cell (cell_of HRY.out 4)
        have k3 : ∀ n2 : Mixed.Later wy, n2.w.cell? ⟨eb, 5, none⟩ = some (.int .i64 tal) := Mixed.Later.cell (cell_of HRY.out 5)
        have k4 : ∀ n2 : Mixed.Later wy, n2.w.cell? ⟨eb, 6, none⟩ = some (.int .i64 to_) := Mixed.Later.cell (cell_of HRY.out 6)
        have g0 : ∀ n2 : Mixed.Later wy, n2.w.cell? ⟨b2, o2 + j * 5, none⟩ = some (.int .i64 xa) := Mixed.Later.cell (grown_cell HGJ.out (hrg 0 _ rfl) (by simp))
        have g1 : ∀ n2 : Mixed.Later wy, n2.w.cell? ⟨b2, o2 + j * 5 + 1, none⟩ = some (.int .i64 xl) := Mixed.Later.cell (grown_cell HGJ.out (hrg 1 _ rfl) (by simp))
        have g2 : ∀ n2 : Mixed.Later wy, n2.w.cell? ⟨b2, o2 + j * 5 + 2, none⟩ = some (.int .i64 xt) := Mixed.Later.cell (grown_cell HGJ.out (hrg 2 _ rfl) (by simp))
        have g3 : ∀ n2 : Mixed.Later wy, n2.w.cell? ⟨b2, o2 + j * 5 + 3, none⟩ = some (.int .i64 xal) := Mixed.Later.cell (grown_cell HGJ.out (hrg 3 _ rfl) (by simp))
        have g4 : ∀ n2 : Mixed.Later wy, n2.w.cell? ⟨b2, o2 + j * 5 + 4, none⟩ = some (.int .i64 xo) := Mixed.Later.cell (grown_cell HGJ.out (hrg 4 _ rfl) (by simp))
        have LC := Lib.hid (fun w' => less_calls ⟨ta, tl, tt, tal, to_⟩ ⟨xa, xl, xt, xal, xo⟩ w')
        clear hrg hx hjk
        go_upto_region 8 with fail
        refine Mixed.wp_region_mixed (Mixed.late wy) (fun k => k == 11) (by kernel_rfl) (by kernel_rfl) (Mixed.late_of (grown_drew (grown_refl _ _))) ?_
        unfold Mixed.late
        refine Mixed.wpM_quiet rfl rfl rfl ?_; intro Kx hKx; go_big_quiet_op; go_big_quiet_on
        refine Mixed.wpM_quiet rfl rfl rfl ?_; intro Kx hKx; go_big_quiet_op; go_big_quiet_on
        refine Mixed.wpM_quiet rfl rfl rfl ?_; intro Kx hKx; go_big_quiet_op; go_big_quiet_on
        refine Mixed.wpM_quiet rfl rfl rfl ?_; intro Kx hKx; go_big_quiet_op; go_big_quiet_on
        refine Mixed.wpM_quiet rfl rfl rfl ?_; intro Kx hKx; go_big_quiet_op; go_big_quiet_on
        refine Mixed.wpM_quiet rfl rfl rfl ?_; intro Kx hKx; go_big_quiet_op; go_big_quiet_on
        refine Mixed.wpM_quiet rfl rfl rfl ?_; intro Kx hKx; go_big_quiet_op; go_big_quiet_on
        refine Mixed.wpM_quiet rfl rfl rfl ?_; intro Kx hKx; go_big_quiet_op; go_big_quiet_on
        refine Mixed.wpM_quiet rfl rfl rfl ?_; intro Kx hKx; go_big_quiet_op; go_big_quiet_on
        refine Mixed.wpM_quiet rfl rfl rfl ?_; intro Kx hKx; go_big_quiet_op; go_big_quiet_on
        refine Mixed.wpM_quiet rfl rfl rfl ?_; intro Kx hKx; go_big_quiet_op; go_big_quiet_on
        refine Mixed.wpM_call rfl rfl 23 _ (by go_simp; rfl) ?_
        refine (LC.out _).mono ?_
        rintro ez w5 ⟨rfl, hg5⟩
        have HG5 : Hid (wy.grownBy w5 none) := grown_trans (grown_drew (grown_refl _ _)) hg5.out
        refine ⟨_, rfl, ⟨⟨w5, HG5.out⟩, rfl⟩, ?_⟩
        clear hg5
        obtain ⟨LB, hLB⟩ : ∃ LB, lessB ⟨ta, tl, tt, tal, to_⟩ ⟨xa, xl, xt, xal, xo⟩ = LB := ⟨_, rfl⟩
        have HLB := Lib.hid hLB
        simp only [hLB]
        clear hLB
        cases LB with
        | true =>
          have HIN : Hid (insF L ⟨ta, tl, tt, tal, to_⟩ = j) := by
            unfold Hid
            rw [HJ.out, HDX.out]
            unfold insF
            rw [List.takeWhile_cons_of_neg (by rw [HLB.out]; simp)]
            simp
          go_simp
          refine Mixed.wpM_quiet rfl rfl rfl ?_; intro Kx hKx; go_big_quiet_op; go_big_quiet_on
          refine Mixed.wpM_quiet rfl rfl rfl ?_; intro Kx hKx; go_big_quiet_op; go_big_quiet_on
          refine Mixed.wpM_nil ?_
          intro nx hnx
          clear nx hnx k0 k1 k2 k3 k4 g0 g1 g2 g3 g4 hne hjb hjc
          go_wp2_with fail
          obtain ⟨wf, rfl⟩ : ∃ wf : World, wf = w5 := ⟨_, rfl⟩
          have HGF : Hid (w1.grownBy wf none) := grown_trans HGJ.out HG5.out
          have HRF : Hid (wf.heap[eb]? = some (.cells #[.int .i64 1, .int .i64 N, .int .i64 ta, .int .i64 tl, .int .i64 tt, .int .i64 tal, .int .i64 to_] 40 (0, 0))) := row_kept HG5.out HRY.out (by simp)
          have hjk9 : j ≤ k := Nat.le_of_lt hjl
          clear HRY HGJ HG5
          have HIL : Hid (insR L ⟨ta, tl, tt, tal, to_⟩ = L.take j ++ ⟨ta, tl, tt, tal, to_⟩ :: L.drop j) := by unfold Hid insR; rw [HIN.out]
          have hML : L.length = k := HOL.out
          have HMB : Hid (k + 1 ≤ n) := by unfold Hid; omega
          have HT1 : Hid (Tos wf (.slice (some (⟨b2, o2, none⟩ : Addr)) j oc) (L.take j)) := (sla_take HLT.out hML hjk9).grown HGF.out
          have HLF : Hid (Tos wf (.slice (some (⟨b2, o2, none⟩ : Addr)) k oc) L) := HLT.out.grown HGF.out
          have HGW : Hid (w.grownBy wf none) := grown_trans HG1.out HGF.out
          have hjmi : (j : Int) ≤ (k : Int) := by omega
          have HJL : Hid ((flC Tone.cells (L.take j)).length = j * 5) := by unfold Hid; rw [flC_len tone_len, List.length_take, Nat.min_eq_left (by omega)]
          have HDL : Hid ((flC Tone.cells (L.drop j)).length = (k - j) * 5) := by unfold Hid; rw [flC_len tone_len, List.length_drop, hML]; try simp
          have HMN : Hid (k ≤ 1099511627776) := by unfold Hid; omega
          have HTBL : Hid (eb < wf.heap.size) := lt_of HRF.out
          have qa0 : ∀ o, (wf.alloc o).drew.cell? ⟨eb, 2, none⟩ = some (.int .i64 ta) := fun o => cell_of (row_kept (grown_alloc_drew wf o) HRF.out (by simp)) 2
          have qa1 : ∀ o, (wf.alloc o).drew.cell? ⟨eb, 3, none⟩ = some (.int .i64 tl) := fun o => cell_of (row_kept (grown_alloc_drew wf o) HRF.out (by simp)) 3
          have qa2 : ∀ o, (wf.alloc o).drew.cell? ⟨eb, 4, none⟩ = some (.int .i64 tt) := fun o => cell_of (row_kept (grown_alloc_drew wf o) HRF.out (by simp)) 4
          have qa3 : ∀ o, (wf.alloc o).drew.cell? ⟨eb, 5, none⟩ = some (.int .i64 tal) := fun o => cell_of (row_kept (grown_alloc_drew wf o) HRF.out (by simp)) 5
          have qa4 : ∀ o, (wf.alloc o).drew.cell? ⟨eb, 6, none⟩ = some (.int .i64 to_) := fun o => cell_of (row_kept (grown_alloc_drew wf o) HRF.out (by simp)) 6
          have qd0 : wf.drew.cell? ⟨eb, 2, none⟩ = some (.int .i64 ta) := cell_of HRF.out 2
          have qd1 : wf.drew.cell? ⟨eb, 3, none⟩ = some (.int .i64 tl) := cell_of HRF.out 3
          have qd2 : wf.drew.cell? ⟨eb, 4, none⟩ = some (.int .i64 tt) := cell_of HRF.out 4
          have qd3 : wf.drew.cell? ⟨eb, 5, none⟩ = some (.int .i64 tal) := cell_of HRF.out 5
          have qd4 : wf.drew.cell? ⟨eb, 6, none⟩ = some (.int .i64 to_) := cell_of HRF.out 6
          have hown := HO1.out.2
          clear hML
          rcases hown with ⟨h, h0⟩ | ⟨g, cap, cur, hv, _, _, hnc, _⟩
          · simp only [Value.slice.injEq] at h
            cases h.1
          simp only [Value.slice.injEq, Option.some.injEq, Addr.mk.injEq] at hv
          obtain ⟨⟨rfl, rfl, _⟩, _, rfl⟩ := hv
          have hMci : (k : Int) ≤ (oc : Int) := by omega
          have hjoc : (j : Int) ≤ (oc : Int) := by omega
          have hjo : ¬ oc = j := by omega
          have HT2 : Hid (Tos wf (.slice (some ⟨b2, j * 5, none⟩) (k - j) (oc - j)) (L.drop j)) := by
            rcases HLF.out with ⟨b9, o9, c9, _, e9, h9⟩ | ⟨_, _, e9, rfl⟩
            · simp only [Value.slice.injEq, Option.some.injEq, Addr.mk.injEq] at e9
              obtain ⟨⟨rfl, rfl, _⟩, e10, rfl⟩ := e9
              refine .inl ⟨b2, j * 5, oc - j, trivial, by rw [List.length_drop, ← e10], fun i y hy => ?_⟩
              have := h9 (j + i) y (by rw [List.getElem?_drop] at hy; exact hy)
              rw [show 0 + (j + i) * 5 = j * 5 + i * 5 from by rw [Nat.add_mul]; omega] at this
              exact this
            · simp at e9
              omega
          have hjo3 : ¬ (oc : Int) = (j : Int) := by omega
          clear HO1 HLT
          go_region_law (first
            | (refine step_append_emp rfl _ _ 30 rfl wf.heap.size 38 i0 (.agg #[.int .i64 0, .int .i64 0, .int .i64 0, .int .i64 0, .int .i64 0]) 5 40 Try.underlying30 hi0 hz0 hz1 hz2 rfl (by decide) _ rfl (by first | exact alloc2_old _ _ _ | exact alloc2_new _ _ _ | exact heap_alloc_new _ _) (by simp) (some ⟨b2, 0, none⟩) j (oc) (flC Tone.cells (L.take j)) rfl HJL.out (news_tones (HT1.out.grown (by repeat (first | exact grown_refl _ _ | refine grown_alloc ?_ _ | refine grown_drew ?_)))) (tone_one _) (by have := HMN.out; unfold maxLen; omega) (by have := HMN.out; omega) (by first | (simp; done) | (simp; omega)) ?_; intro oa1 oc1 w1' ho1 hg1; have HO1_ := Lib.hid ho1; have HG1_ : Hid (wf.grownBy w1' none) := grown_new2 (by repeat (first | exact grown_refl _ _ | refine grown_alloc ?_ _ | refine grown_drew ?_)) hg1 (by simp); have hr9 := row_kept HG1_.out HRF.out (by simp); have r0 := cell_of hr9 2; have r1 := cell_of hr9 3; have r2 := cell_of hr9 4; have r3 := cell_of hr9 5; have r4 := cell_of hr9 6; clear hr9 ho1; first | have HB_ := Lib.hid (row_kept hg1 (alloc2_old wf.drew (.cells #[.int .i64 ta, .int .i64 tl, .int .i64 tt, .int .i64 tal, .int .i64 to_] 38) _) (by simp)) | have HB_ := Lib.hid (row_kept hg1 (alloc2_new wf.drew _ (.cells #[.int .i64 ta, .int .i64 tl, .int .i64 tt, .int .i64 tal, .int .i64 to_] 38)) (by simp)) | skip)
            | (refine step_append_in rfl _ _ 30 rfl wf.heap.size 38 i0 (.agg #[.int .i64 0, .int .i64 0, .int .i64 0, .int .i64 0, .int .i64 0]) 5 40 Try.underlying30 hi0 hz0 hz1 hz2 rfl (by decide) (.slice oa1 j oc1) j (flC Tone.cells (L.take j)) rfl (by first | exact HO1_.out | exact own_kept HO1_.out (grown_alloc (grown_refl _ _) _)) (some ⟨_, 0, none⟩) 1 1 [.int .i64 ta, .int .i64 tl, .int .i64 tt, .int .i64 tal, .int .i64 to_] rfl rfl (news_row (by first | exact heap_alloc_new _ _ | exact HB_.out)) (by simp [Value.oneCell']) (by have := HMN.out; unfold maxLen; omega) (by have := HMN.out; omega) (by first | exact HG1_.out.size | exact Nat.le_trans HG1_.out.size (by simp)) ?_; intro oa2 oc2 w2' ho2 hg2 hb2; have HO2_ := Lib.hid ho2; have HG2_ : Hid (wf.grownBy w2' none) := grown_own (by first | exact HG1_.out | exact grown_alloc HG1_.out _) (by first | exact HO1_.out | exact own_kept HO1_.out (grown_alloc (grown_refl _ _) _)) (Nat.le_refl _) hg2; clear ho2 hg2 hb2)
            | (refine step_append_in rfl _ _ 30 rfl wf.heap.size 38 i0 (.agg #[.int .i64 0, .int .i64 0, .int .i64 0, .int .i64 0, .int .i64 0]) 5 40 Try.underlying30 hi0 hz0 hz1 hz2 rfl (by decide) (.slice oa2 (j + 1) oc2) (j + 1) (flC Tone.cells (L.take j) ++ [.int .i64 ta, .int .i64 tl, .int .i64 tt, .int .i64 tal, .int .i64 to_]) rfl HO2_.out (some ⟨b2, j * 5, none⟩) (k - j) (oc - j) (flC Tone.cells (L.drop j)) rfl HDL.out (news_tones (HT2.out.grown HG2_.out)) (tone_one _) (by have := HMN.out; unfold maxLen; omega) (by have := HMN.out; omega) HG2_.out.size ?_; intro oa3 oc3 w3' ho3 hg3 hb3; have HO3_ := Lib.hid ho3; have HG3_ : Hid (wf.grownBy w3' none) := grown_own HG2_.out HO2_.out (Nat.le_refl _) hg3; clear ho3 hg3 hb3))
          all_goals
            have HFL : Hid (flC Tone.cells (insR L ⟨ta, tl, tt, tal, to_⟩) = flC Tone.cells (L.take j) ++ [.int .i64 ta, .int .i64 tl, .int .i64 tt, .int .i64 tal, .int .i64 to_] ++ flC Tone.cells (L.drop j)) := by
              unfold Hid
              rw [HIL.out, flC_append, List.append_assoc]
              rfl
            have HO4 : Hid (w3'.ownsRow w.heap.size 38 5 (.slice oa3 (k + 1) oc3) (k + 1) (flC Tone.cells (insR L ⟨ta, tl, tt, tal, to_⟩))) := by
              unfold Hid
              rw [HFL.out]
              have h := HO3_.out
              rw [show j + 1 + (k - j) = k + 1 from by omega] at h
              exact KWith.own_mono h HGW.out.size
            have HLN : Hid ((insR L ⟨ta, tl, tt, tal, to_⟩).length = k + 1) := by unfold Hid; rw [insR_len, HOL.out]
            have hwk : IntKind.i64.wrap ((k : Int) + 1) = (k : Int) + 1 := IntWalk.i64_in _ (by omega)
            have hlen : j + 1 + (k - j) = k + 1 := by omega
            try simp only [hlen]
            have HLEN := Lib.hid hlen
            clear hlen
            go_wp2_with fail
            refine ⟨?_, by simp [intOf]; omega⟩
            first
              | exact ⟨z + 1, k + 1, oa3, oc3, by omega, by omega, rfl, rfl, by rw [HTK.out]; exact HLN.out, by rw [HTK.out]; exact HO4.out, (grown_trans HGW0.out (grown_trans HGF.out HG3_.out))⟩
              | (repeat apply Exists.intro
                 refine ⟨?_, rfl⟩
                 exact ⟨z + 1, k + 1, oa3, oc3, by omega, by omega, rfl, rfl, by rw [HTK.out]; exact HLN.out, by rw [HTK.out]; exact HO4.out, (grown_trans HGW0.out (grown_trans HGF.out HG3_.out))⟩)
        | false =>
          have HJ2 : Hid (insF L ⟨ta, tl, tt, tal, to_⟩ = insF (L.drop (j + 1)) ⟨ta, tl, tt, tal, to_⟩ + (j + 1)) := by
            unfold Hid
            rw [HJ.out, HDX.out]
            unfold insF
            rw [List.takeWhile_cons_of_pos (by rw [HLB.out]; rfl), List.length_cons]
            omega
          have hwj : IntKind.i64.wrap ((j : Int) + 1) = (j : Int) + 1 := IntWalk.i64_in _ (by omega)
          go_simp
          refine Mixed.wpM_quiet rfl rfl rfl ?_; intro Kx hKx; go_big_quiet_op; go_big_quiet_on
          refine Mixed.wpM_quiet rfl rfl rfl ?_; intro Kx hKx; go_big_quiet_op; go_big_quiet_on
          refine Mixed.wpM_nil ?_
          intro nx hnx
          clear nx hnx k0 k1 k2 k3 k4 g0 g1 g2 g3 g4 hne hjb hjc
          go_wp2_with fail
          refine ⟨?_, by simp [intOf]; omega⟩
          first
            | exact ⟨j + 1, by omega, rfl, HJ2.out, grown_trans HGJ.out HG5.out⟩
            | (repeat apply Exists.intro
               refine ⟨?_, rfl⟩
               exact ⟨j + 1, by omega, rfl, HJ2.out, grown_trans HGJ.out HG5.out⟩)
    have hcn := HCUT.out hD
    simp only at hcn
    obtain ⟨m, rfl⟩ : ∃ m : Nat, N = (m : Int) := ⟨N.toNat, by omega⟩
    have hmk : m < k := by omega
    clear hcn HCUT
    have HTK : Hid (linR (U.take (z + 1)) = L.take m ++ L.drop (m + 1)) := by
      unfold Hid
      rw [HTK0.out]
      unfold lin1
      rw [if_neg hD]
      simp only [Int.toNat_natCast]
      exact List.eraseIdx_eq_take_drop_succ _ _
    clear HTK0
    have q1 : w1.cell? ⟨eb, 1, none⟩ = some (.int .i64 (m : Int)) := cell_of HR1.out 1
    obtain ⟨g, cur, rfl, hgB, hgg, hkc, _, _, _⟩ := own_row HO1.out (by omega)
    have hgL := lt_of hgg
    clear hgg
    obtain ⟨wf, hwf⟩ : ∃ wf : World, wf = w1 := ⟨_, rfl⟩
    subst hwf
    have HT1 : Hid (Tos wf (.slice (some ⟨g, 0, none⟩) m oc) (L.take m)) := sla_take HLT.out HOL.out (by omega)
    have HJL : Hid ((flC Tone.cells (L.take m)).length = m * 5) := by unfold Hid; rw [flC_len tone_len, List.length_take, HOL.out, Nat.min_eq_left (by omega)]
    have HDL : Hid ((flC Tone.cells (L.drop (m + 1))).length = (k - (m + 1)) * 5) := by unfold Hid; rw [flC_len tone_len, List.length_drop, HOL.out]
    have qd1 : wf.drew.cell? ⟨eb, 1, none⟩ = some (.int .i64 (m : Int)) := q1
    have qa1 : ∀ o, (wf.alloc o).drew.cell? ⟨eb, 1, none⟩ = some (.int .i64 (m : Int)) := fun o => grown_cell (grown_alloc_drew wf o) q1 (by simp)
    have hwm : IntKind.i64.wrap ((m : Int) + 1) = (m : Int) + 1 := IntWalk.i64_in _ (by omega)
    have hmo : (m : Int) ≤ (oc : Int) := by omega
    have hmm : (m : Int) ≤ (m : Int) + 1 := by omega
    have hm0 : (0 : Int) ≤ (m : Int) + 1 := by omega
    have hmo2 : (m : Int) + 1 ≤ (oc : Int) := by omega
    have hmk2 : (m : Int) + 1 ≤ (k : Int) := by omega
    have hko : (k : Int) ≤ (oc : Int) := by omega
    have hlk : (L.take m ++ L.drop (m + 1)).length = k - 1 := by
      rw [List.length_append, List.length_take, List.length_drop, HOL.out]
      omega
    have HLK := Lib.hid hlk
    have HKK : Hid (m + (k - (m + 1)) = k - 1) := by unfold Hid; omega
    clear hlk
    by_cases hoc : oc = m + 1
    · have HT2 : Hid (Tos wf (.slice (some ⟨g, 0, none⟩) 0 0) (L.drop (m + 1))) := by
        have h0 : L.drop (m + 1) = [] := List.drop_of_length_le (by rw [HOL.out]; omega)
        unfold Hid
        rw [h0]
        exact .inr ⟨_, _, rfl, rfl⟩
      have hk0 : k - (m + 1) = 0 := by omega
      have HDL0 : Hid ((flC Tone.cells (L.drop (m + 1))).length = 0 * 5) := by have h := HDL.out; rw [hk0] at h; exact h
      have HKK0 : Hid (m + 0 = m) := rfl
      have HLM : Hid ((L.take m ++ L.drop (m + 1)).length = m) := by unfold Hid; rw [HLK.out]; omega
      subst hoc
      clear HO1 HLT
      go_upto_region 11 with fail
      go_region_law (first
        | (refine step_append_emp rfl _ _ 30 rfl wf.heap.size 38 i0 (.agg #[.int .i64 0, .int .i64 0, .int .i64 0, .int .i64 0, .int .i64 0]) 5 40 Try.underlying30 hi0 hz0 hz1 hz2 rfl (by decide) _ rfl (by first | exact alloc2_old _ _ _ | exact alloc2_new _ _ _ | exact heap_alloc_new _ _) (by simp) (some ⟨g, 0, none⟩) (m) ((m + 1)) (flC Tone.cells (L.take m)) rfl HJL.out (news_sl tone_len (by decide) (HT1.out.grown (by repeat (first | exact grown_refl _ _ | refine grown_alloc ?_ _ | refine grown_drew ?_)))) (tone_one _) (by unfold maxLen; omega) (by omega) (by first | (simp; done) | (simp; omega)) ?_; intro oa1 oc1 w1' ho1 hg1; have HO1_ := Lib.hid ho1; have HG1_ : Hid (wf.grownBy w1' none) := grown_new2 (by repeat (first | exact grown_refl _ _ | refine grown_alloc ?_ _ | refine grown_drew ?_)) hg1 (by simp); have r1 := grown_cell HG1_.out q1 (by simp); first | have HB_ := Lib.hid (row_kept hg1 (alloc2_old wf.drew (.cells #[] 38) _) (by simp)) | have HB_ := Lib.hid (row_kept hg1 (alloc2_new wf.drew _ (.cells #[] 38)) (by simp)) | skip; clear ho1 hg1)
        | (refine step_append_in rfl _ _ 30 rfl wf.heap.size 38 i0 (.agg #[.int .i64 0, .int .i64 0, .int .i64 0, .int .i64 0, .int .i64 0]) 5 40 Try.underlying30 hi0 hz0 hz1 hz2 rfl (by decide) (.slice oa1 (m) oc1) (m) (flC Tone.cells (L.take m)) rfl (by first | exact HO1_.out | exact own_kept HO1_.out (grown_alloc (grown_refl _ _) _)) (some ⟨g, 0, none⟩) (0) (0) (flC Tone.cells (L.drop (m + 1))) rfl HDL0.out (news_sl tone_len (by decide) (HT2.out.grown HG1_.out)) (tone_one _) (by unfold maxLen; omega) (by omega) (by first | exact HG1_.out.size | exact Nat.le_trans HG1_.out.size (by simp)) ?_; intro oa2 oc2 w2' ho2 hg2 hb2; have HO2_ := Lib.hid ho2; have HG2_ : Hid (wf.grownBy w2' none) := grown_own (by first | exact HG1_.out | exact grown_alloc HG1_.out _) (by first | exact HO1_.out | exact own_kept HO1_.out (grown_alloc (grown_refl _ _) _)) (Nat.le_refl _) hg2; clear ho2 hg2 hb2))
      all_goals
        have hkk := HKK0.out
        try simp only [hkk]
        have ho9 := HO2_.out
        rw [hkk] at ho9
        have HO9 : Hid (w2'.ownsRow w.heap.size 38 5 (.slice oa2 (m) oc2) (m) (flC Tone.cells (linR (U.take (z + 1))))) := by
          unfold Hid
          rw [HTK.out, flC_append]
          exact KWith.own_mono ho9 HG1.out.size
        have HL9 : Hid ((linR (U.take (z + 1))).length = m) := by unfold Hid; rw [HTK.out]; exact HLM.out
        clear hkk ho9 q0 q1 qd1 qa1
        go_wp2_with fail
        refine ⟨?_, by simp [intOf]; omega⟩
        first
          | exact ⟨z + 1, m, oa2, oc2, by omega, by omega, rfl, rfl, HL9.out, HO9.out, grown_trans HGW0.out HG2_.out⟩
          | (repeat apply Exists.intro
             refine ⟨?_, rfl⟩
             exact ⟨z + 1, m, oa2, oc2, by omega, by omega, rfl, rfl, HL9.out, HO9.out, grown_trans HGW0.out HG2_.out⟩)
    have HT2 : Hid (Tos wf (.slice (some ⟨g, (m + 1) * 5, none⟩) (k - (m + 1)) (oc - (m + 1))) (L.drop (m + 1))) := by
      rcases HLT.out with ⟨b9, o9, c9, _, e9, h9⟩ | ⟨_, _, e9, rfl⟩
      · simp only [Value.slice.injEq, Option.some.injEq, Addr.mk.injEq] at e9
        obtain ⟨⟨rfl, rfl, _⟩, e10, rfl⟩ := e9
        refine .inl ⟨g, (m + 1) * 5, oc - (m + 1), trivial, by rw [List.length_drop, HOL.out], fun i y hy => ?_⟩
        have := h9 (m + 1 + i) y (by rw [List.getElem?_drop] at hy; exact hy)
        rw [show 0 + (m + 1 + i) * 5 = (m + 1) * 5 + i * 5 from by rw [Nat.add_mul (m + 1) i]; omega] at this
        exact this
      · simp at e9
        omega
    have hoc3 : ¬ (oc : Int) = (m : Int) + 1 := by omega
    clear HO1 HLT
    go_upto_region 11 with fail
    go_region_law (first
      | (refine step_append_emp rfl _ _ 30 rfl wf.heap.size 38 i0 (.agg #[.int .i64 0, .int .i64 0, .int .i64 0, .int .i64 0, .int .i64 0]) 5 40 Try.underlying30 hi0 hz0 hz1 hz2 rfl (by decide) _ rfl (by first | exact alloc2_old _ _ _ | exact alloc2_new _ _ _ | exact heap_alloc_new _ _) (by simp) (some ⟨g, 0, none⟩) (m) (oc) (flC Tone.cells (L.take m)) rfl HJL.out (news_sl tone_len (by decide) (HT1.out.grown (by repeat (first | exact grown_refl _ _ | refine grown_alloc ?_ _ | refine grown_drew ?_)))) (tone_one _) (by unfold maxLen; omega) (by omega) (by first | (simp; done) | (simp; omega)) ?_; intro oa1 oc1 w1' ho1 hg1; have HO1_ := Lib.hid ho1; have HG1_ : Hid (wf.grownBy w1' none) := grown_new2 (by repeat (first | exact grown_refl _ _ | refine grown_alloc ?_ _ | refine grown_drew ?_)) hg1 (by simp); have r1 := grown_cell HG1_.out q1 (by simp); first | have HB_ := Lib.hid (row_kept hg1 (alloc2_old wf.drew (.cells #[] 38) _) (by simp)) | have HB_ := Lib.hid (row_kept hg1 (alloc2_new wf.drew _ (.cells #[] 38)) (by simp)) | skip; clear ho1 hg1)
      | (refine step_append_in rfl _ _ 30 rfl wf.heap.size 38 i0 (.agg #[.int .i64 0, .int .i64 0, .int .i64 0, .int .i64 0, .int .i64 0]) 5 40 Try.underlying30 hi0 hz0 hz1 hz2 rfl (by decide) (.slice oa1 (m) oc1) (m) (flC Tone.cells (L.take m)) rfl (by first | exact HO1_.out | exact own_kept HO1_.out (grown_alloc (grown_refl _ _) _)) (some ⟨g, (m + 1) * 5, none⟩) (k - (m + 1)) (oc - (m + 1)) (flC Tone.cells (L.drop (m + 1))) rfl HDL.out (news_sl tone_len (by decide) (HT2.out.grown HG1_.out)) (tone_one _) (by unfold maxLen; omega) (by omega) (by first | exact HG1_.out.size | exact Nat.le_trans HG1_.out.size (by simp)) ?_; intro oa2 oc2 w2' ho2 hg2 hb2; have HO2_ := Lib.hid ho2; have HG2_ : Hid (wf.grownBy w2' none) := grown_own (by first | exact HG1_.out | exact grown_alloc HG1_.out _) (by first | exact HO1_.out | exact own_kept HO1_.out (grown_alloc (grown_refl _ _) _)) (Nat.le_refl _) hg2; clear ho2 hg2 hb2))
    all_goals
      have hkk := HKK.out
      try simp only [hkk]
      have ho9 := HO2_.out
      rw [hkk] at ho9
      have HO9 : Hid (w2'.ownsRow w.heap.size 38 5 (.slice oa2 (k - 1) oc2) (k - 1) (flC Tone.cells (linR (U.take (z + 1))))) := by
        unfold Hid
        rw [HTK.out, flC_append]
        exact KWith.own_mono ho9 HG1.out.size
      have HL9 : Hid ((linR (U.take (z + 1))).length = k - 1) := by unfold Hid; rw [HTK.out]; exact HLK.out
      clear hkk ho9 q0 q1 qd1 qa1
      go_wp2_with fail
      refine ⟨?_, by simp [intOf]; omega⟩
      first
        | exact ⟨z + 1, k - 1, oa2, oc2, by omega, by omega, rfl, rfl, HL9.out, HO9.out, grown_trans HGW0.out HG2_.out⟩
        | (repeat apply Exists.intro
           refine ⟨?_, rfl⟩
           exact ⟨z + 1, k - 1, oa2, oc2, by omega, by omega, rfl, rfl, HL9.out, HO9.out, grown_trans HGW0.out HG2_.out⟩)
end Go.Proofs.Ytdnmimfichijgaa.KRTn
