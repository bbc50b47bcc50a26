/- The law StepsTimes: its walk. -/
import Derived.Test.YthmcicmebaibgaaTTm
import Derived.Test.YthmcicmebaibgaaTApp
namespace Go.Proofs.Ythmcicmebaibgaa.TTimes
open Go Go.RowKit Go.Proofs.Ythmcicmebaibgaa.WMod Go.Proofs.Ythmcicmebaibgaa.TMod Go.Proofs.Ythmcicmebaibgaa.TRead Go.Proofs.Ythmcicmebaibgaa.TEv Go.Proofs.Ythmcicmebaibgaa.TApp Go.Proofs.Ythmcicmebaibgaa.TWin Go.Proofs.Ythmcicmebaibgaa.TNext Go.Proofs.Ythmcicmebaibgaa.TPlr Go.Proofs.Ythmcicmebaibgaa.TPm Go.Proofs.Ythmcicmebaibgaa.TPly Go.Proofs.Ythmcicmebaibgaa.TAlive Go.Proofs.Ythmcicmebaibgaa.TLit Go.Proofs.Ythmcicmebaibgaa.TTm Go.Proofs.Ythmcicmebaibgaa.Opn Go.Proofs.Ythmcicmebaibgaa.Hp Go.Proofs.Ythmcicmebaibgaa.Rd Go.Proofs.Ythmcicmebaibgaa.TWWrong Go.Proofs.Ythmcicmebaibgaa.TSame Go.Proofs.Ythmcicmebaibgaa.TSameQ
set_option linter.unusedVariables false
set_option linter.unusedSimpArgs false

theorem info44 : (Try.prog.info? 44).map (fun i => (i.zero, i.size, i.bytes)) = some (some (.agg #[.int .i64 0, .int .i64 0, .slice none 0 0, .slice none 0 0]), 4, 64) := by kernel_rfl

set_option maxHeartbeats 8000000 in
set_option maxRecDepth 100000 in
theorem law (t l : Int) (ve vk : Value) (evs : List Ev) (k : For) (times ticks : Int) (w : World) (hE : Evs w ve evs) (hK : Secs w vk k) :
    Calls Try.prog 6 #[.agg #[.int .i64 t, .int .i64 l, ve, vk], .int .i64 times, .int .i64 ticks] w fun e w' => e = .returned (.bool true) ∧ Hid (w.grownBy w' none) := by
  obtain ⟨i0, hi, hz0, hz1, hz2⟩ := info_parts info44
  obtain ⟨ae, ce, rfl⟩ := evs_len hE
  obtain ⟨ak, ck, rfl⟩ := secs_open hK
  have HE := Lib.hid hE
  have HK := Lib.hid hK
  have AL := Lib.hid (fun w' => alive_calls w')
  obtain ⟨ne, hne⟩ : ∃ ne, evs.length = ne := ⟨_, rfl⟩
  obtain ⟨nk, hnk⟩ : ∃ nk, k.len = nk := ⟨_, rfl⟩
  rw [hne] at HE ⊢
  rw [hnk] at HK ⊢
  have HG0 : Hid (w.grownBy (w.alloc (.cells #[.int .i64 t, .int .i64 l, .slice ae ne ce, .slice ak nk ck] 44)) none) := grown_alloc (grown_refl _ _) _
  clear hE hK hne hnk
  by_cases a0 : times < 0
  · go_enter Try.func6, Try.ntmps6
    go_wp2_with (go_at_call 12; refine (AL.out _).mono ?_; rintro e1 w1 ⟨rfl, hg1⟩)
    go_ret
    exact ⟨rfl, grown_trans HG0.out hg1.out⟩
  have a0' : (0 : Int) ≤ times := by omega
  clear a0
  by_cases a1 : 50 < times
  · go_enter Try.func6, Try.ntmps6
    go_wp2_with (go_at_call 12; refine (AL.out _).mono ?_; rintro e1 w1 ⟨rfl, hg1⟩)
    go_ret
    exact ⟨rfl, grown_trans HG0.out hg1.out⟩
  obtain ⟨n, rfl⟩ : ∃ n : Nat, times = (n : Int) := ⟨times.toNat, (Int.toNat_of_nonneg a0').symm⟩
  have a1' : (n : Int) ≤ 50 := by omega
  clear a1 a0'
  obtain ⟨p3, hp3⟩ : ∃ p3, w.heap.size = p3 := ⟨_, rfl⟩
  have HP3 := Lib.hid hp3
  have HR0 : Hid ((w.alloc (.cells #[.int .i64 t, .int .i64 l, .slice ae ne ce, .slice ak nk ck] 44)).heap[p3]? = some (.cells #[.int .i64 t, .int .i64 l, .slice ae ne ce, .slice ak nk ck] 44 (0, 0))) := by unfold Hid; rw [← hp3]; exact heap_alloc_new _ _
  clear hp3
  go_enter Try.func6, Try.ntmps6
  go_upto_region 3 with (go_at_call 12; refine (AL.out _).mono ?_; rintro e1 w1 ⟨rfl, hg1⟩)
  simp only [HP3.out]
  obtain ⟨wa, rfl⟩ : ∃ wa : World, wa = w1 := ⟨_, rfl⟩
  have HRA : Hid (wa.heap[p3]? = some (.cells #[.int .i64 t, .int .i64 l, .slice ae ne ce, .slice ak nk ck] 44 (0, 0))) := row_kept hg1.out HR0.out (by simp)
  have HGA : Hid (w.grownBy wa none) := grown_trans HG0.out hg1.out
  clear HR0
  have c0 := cell_of HRA.out 0
  have c1 := cell_of HRA.out 1
  have c2 := cell_of HRA.out 2
  have c3 := cell_of HRA.out 3
  obtain ⟨p7, hp7⟩ : ∃ p7, wa.heap.size = p7 := ⟨_, rfl⟩
  have HP7 := Lib.hid hp7
  clear hp7
  go_wp2_with fail
  simp only [HP7.out]
  obtain ⟨wb, hwb⟩ : ∃ wb, wa.alloc (.cells #[.int .i64 1, .int .i64 l, .slice ae ne ce, .slice ak nk ck] 44) = wb := ⟨_, rfl⟩
  have HGAB : Hid (wa.grownBy wb none) := by unfold Hid; rw [← hwb]; exact grown_alloc (grown_refl _ _) _
  have HR7 : Hid (wb.heap[p7]? = some (.cells #[.int .i64 1, .int .i64 l, .slice ae ne ce, .slice ak nk ck] 44 (0, 0))) := by unfold Hid; rw [← hwb, ← HP7.out]; exact heap_alloc_new _ _
  simp only [hwb]
  clear hwb c0 c1 c2 c3
  have HR3 : Hid (wb.heap[p3]? = some (.cells #[.int .i64 t, .int .i64 l, .slice ae ne ce, .slice ak nk ck] 44 (0, 0))) := row_kept HGAB.out HRA.out (by simp)
  have HGB : Hid (w.grownBy wb none) := grown_trans HGA.out HGAB.out
  obtain ⟨B, hB⟩ : ∃ B, wb.heap.size = B := ⟨_, rfl⟩
  have HB := Lib.hid hB
  clear hB
  go_loopw [8, 9] (fun v8 v9 wr => ∃ i : Nat, i ≤ n ∧ v9 = .int .i64 (i : Int) ∧ Hid (wr.ownsRow B 44 4 v8 i (cpC l (.slice ae ne ce) (.slice ak nk ck) i)) ∧ Hid (wb.grownBy wr none)) (fun _ v9 _ => n - (intOf v9).toNat)
  case atStart => exact ⟨0, Nat.zero_le _, rfl, World.ownsRow_nil _ _ _ _, grown_refl _ _⟩
  case round =>
    obtain ⟨i, hi1, rfl, HO, HG⟩ := hrel
    by_cases hie : i = n
    · have hie2 := hie.symm
      subst hie2
      clear hie hi1
      obtain ⟨a8, c8, rfl⟩ := own_slice HO.out
      have HR3r : Hid (wr.heap[p3]? = some (.cells #[.int .i64 t, .int .i64 l, .slice ae ne ce, .slice ak nk ck] 44 (0, 0))) := row_kept HG.out HR3.out (by simp)
      have k0 := cell_of HR3r.out 0
      have kf := free_of HR3r.out 0
      go_upto_region 13 with fail
      obtain ⟨wc, hwc⟩ : ∃ wc, wr.setCell ⟨p3, 0, none⟩ (.int .i64 (n : Int)) = wc := ⟨_, rfl⟩
      have HRC : Hid (wc.heap[p3]? = some (.cells #[.int .i64 (n : Int), .int .i64 l, .slice ae ne ce, .slice ak nk ck] 44 (0, 0))) := by
        unfold Hid
        rw [← hwc, set_self HR3r.out]
        simp
      have HGRC : Hid (wr.grownBy wc (some p3)) := by unfold Hid; rw [← hwc]; exact grown_set (p := ⟨p3, 0, none⟩) (grown_refl _ _) (.inl rfl) _
      simp only [hwc]
      clear hwc k0 kf
      have HGC : Hid (w.grownBy wc none) := grown_from (grown_trans HGB.out HG.out) HGRC.out (.inl (by rw [HP3.out]; exact Nat.le_refl _))
      have HOC : Hid (wc.ownsRow B 44 4 (.slice a8 n c8) n (cpC l (.slice ae ne ce) (.slice ak nk ck) n)) := HO.out.kept HGRC.out (.inr (fun h => by have := own_base HO.out h; have h2 := lt_of HR3.out; have h3 := HB.out; unfold Hid at h3; omega))
      have c0 := cell_of HRC.out 0
      have c1 := cell_of HRC.out 1
      have c2 := cell_of HRC.out 2
      have c3 := cell_of HRC.out 3
      have HGCE : Hid (wc.grownBy ((wc.alloc (.cells #[.int .i64 (n : Int), .int .i64 l, .slice ae ne ce, .slice ak nk ck] 44)).alloc (.cells #[.int .i64 (-1), .int .i64 ticks] 31)) none) := grown_alloc (grown_alloc (grown_refl _ _) _) _
      have HGE : Hid (w.grownBy ((wc.alloc (.cells #[.int .i64 (n : Int), .int .i64 l, .slice ae ne ce, .slice ak nk ck] 44)).alloc (.cells #[.int .i64 (-1), .int .i64 ticks] 31)) none) := grown_trans HGC.out HGCE.out
      have HSA : Hid (Secs ((wc.alloc (.cells #[.int .i64 (n : Int), .int .i64 l, .slice ae ne ce, .slice ak nk ck] 44)).alloc (.cells #[.int .i64 (-1), .int .i64 ticks] 31)) (.slice (some ⟨wc.heap.size, 0, none⟩) 1 1) (.cons (n : Int) l evs k .nil)) := by
        unfold Hid
        have hz := grown_alloc HGC.out (.cells #[.int .i64 (n : Int), .int .i64 l, .slice ae ne ce, .slice ak nk ck] 44)
        exact (one_secs (evs_grown HE.out hz) (HK.out.grown hz) (heap_alloc_new _ _)).grown (grown_alloc (grown_refl _ _) _)
      have htn := turn1 (wc.alloc (.cells #[.int .i64 (n : Int), .int .i64 l, .slice ae ne ce, .slice ak nk ck] 44)) (-1) ticks
      rw [show (wc.alloc (.cells #[.int .i64 (n : Int), .int .i64 l, .slice ae ne ce, .slice ak nk ck] 44)).heap.size = wc.heap.size + 1 from by simp] at htn
      have PC := Lib.hid (Play_calls _ _ (some ⟨wc.heap.size + 1, 0, none⟩) 1 [⟨-1, ticks⟩] _ HSA.out htn (by simp))
      rw [List.length_singleton] at PC
      have HTT := Lib.hid (times_turn n l evs k ticks)
      have HTE := Lib.hid (fun hn : 0 < n => times_err hn (by omega) l evs k)
      have HNZ : Hid (longE (cpy l evs k n) ≠ 0 → 0 < n) := by
        intro h
        rcases Nat.eq_zero_or_pos n with h0 | h0
        · subst h0; exact absurd rfl h
        · exact h0
      obtain ⟨FA, hFA⟩ : ∃ FA : For, (.cons (n : Int) l evs k .nil) = FA := ⟨_, rfl⟩
      obtain ⟨FB, hFB⟩ : ∃ FB : For, cpy l evs k n = FB := ⟨_, rfl⟩
      have HFB := Lib.hid hFB
      rw [hFA] at PC HTT HTE
      rw [hFB] at HTT HTE HNZ
      clear hFA hFB htn HSA HR3r
      obtain ⟨EA, hEA⟩ : ∃ EA, longE FA = EA := ⟨_, rfl⟩
      obtain ⟨EB, hEB⟩ : ∃ EB, longE FB = EB := ⟨_, rfl⟩
      have HEA := Lib.hid hEA
      have HEB := Lib.hid hEB
      have hte : 0 < n → EB = EA ∨ EB = 5 := by rw [← hEA, ← hEB]; exact HTE.out
      have hnz : EB ≠ 0 → 0 < n := by rw [← hEB]; exact HNZ.out
      clear HTE HNZ
      by_cases hA : EA = 0
      · have HLA : Hid (longE FA = 0) := by unfold Hid; rw [hEA, hA]
        by_cases hB : EB = 0
        · have HLB : Hid (longE FB = 0) := by unfold Hid; rw [hEB, hB]
          clear hA hB hEA hEB hte hnz
          go_upto_region 14 with (go_at_call 9; refine (PC.out).mono ?_; rintro e2 w2 ⟨hp2, hg2⟩; rcases hp2.out with ⟨hx, _⟩ | ⟨_, v2, rfl, hpl2⟩; (exact absurd HLA.out hx))
          have HPL2 := Lib.hid hpl2
          obtain ⟨wf, rfl⟩ : ∃ wf : World, wf = w2 := ⟨_, rfl⟩
          have HGF : Hid (w.grownBy wf none) := grown_trans HGE.out hg2.out
          have HGCF : Hid (wc.grownBy wf none) := grown_trans HGCE.out hg2.out
          clear hp2
          have HSB : Hid (Secs (wf.alloc (.cells #[.int .i64 (-1), .int .i64 ticks] 31)) (.slice a8 n c8) FB) := by
            unfold Hid
            rw [← HFB.out]
            have hz := grown_alloc HGF.out (.cells #[.int .i64 (-1), .int .i64 ticks] 31)
            exact cpy_secs (evs_grown HE.out hz) (HK.out.grown hz) (own_kept HOC.out (grown_alloc HGCF.out _))
          have PC2 := Lib.hid (Play_calls FB _ (some ⟨wf.heap.size, 0, none⟩) 1 [⟨-1, ticks⟩] (wf.alloc (.cells #[.int .i64 (-1), .int .i64 ticks] 31)) HSB.out (turn1 wf (-1) ticks) (by simp))
          rw [List.length_singleton] at PC2
          have HGG : Hid (w.grownBy (wf.alloc (.cells #[.int .i64 (-1), .int .i64 ticks] 31)) none) := grown_alloc HGF.out _
          have HGFF : Hid (wf.grownBy (wf.alloc (.cells #[.int .i64 (-1), .int .i64 ticks] 31)) none) := grown_alloc (grown_refl _ _) _
          go_upto_region 15 with (go_at_call 9; refine (PC2.out).mono ?_; rintro e3 w3 ⟨hp3, hg3⟩; rcases hp3.out with ⟨hx, _⟩ | ⟨_, v3, rfl, hpl3⟩; (exact absurd HLB.out hx))
          obtain ⟨wh, rfl⟩ : ∃ wh : World, wh = w3 := ⟨_, rfl⟩
          have HGH : Hid (w.grownBy wh none) := grown_trans HGG.out hg3.out
          have HPL3 := Lib.hid hpl3
          clear hp3 hpl3
          have HPA : Hid (Pls wh v2 (playR FB 0 [⟨-1, ticks⟩])) := by
            unfold Hid
            rw [← HTT.out]
            exact pls_grown HPL2.out (grown_trans HGFF.out hg3.out)
          have HPB := HPL3
          simp only [playR] at HPA HPB
          rw [go_turn] at HPA HPB
          clear hpl2 HPL2
          obtain ⟨a2, c2', rfl⟩ := slc_open HPA.out
          obtain ⟨a3, c3', rfl⟩ := slc_open HPB.out
          obtain ⟨b2, o2, ve2, rfl, _, r21, r22, r23, hev2⟩ := pls_at HPA.out (k := 0) rfl
          obtain ⟨b3, o3, ve3, rfl, _, r31, r32, r33, hev3⟩ := pls_at HPB.out (k := 0) rfl
          simp only [Nat.zero_mul, Nat.add_zero, List.length_cons, List.length_nil, Nat.zero_add] at r21 r22 r23 r31 r32 r33 ⊢
          obtain ⟨er, her⟩ : ∃ er, (nextR FB 0 ticks).2.2 = er := ⟨_, rfl⟩
          obtain ⟨es, hes⟩ : ∃ es, (nextR FB 0 ticks).1 = es := ⟨_, rfl⟩
          have hle := nextR_len FB 0 ticks
          rw [hes] at hev2 hev3 hle
          rw [her] at r21 r31
          obtain ⟨x2, y2, rfl⟩ := evs_len hev2
          obtain ⟨x3, y3, rfl⟩ := evs_len hev3
          have SQ := Lib.hid (fun m => same_quiet x2 x3 y2 y3 es (wh.drewN m) (evs_grown hev2 (grown_drewN (grown_refl _ _) _)) (evs_grown hev3 (grown_drewN (grown_refl _ _) _)) (by omega))
          obtain ⟨ln, hln⟩ : ∃ ln, es.length = ln := ⟨_, rfl⟩
          rw [hln] at r22 r32 SQ
          clear hev2 hev3 hle her hes hln r23 r33
          go_upto_region 17 with fail
          go_quiet ((go_at_call 11; refine Calls.quiet_of (SQ.out _)))
          go_wp2_with fail
          go_ret
          exact ⟨rfl, grown_drewN HGH.out _⟩
        · have HLB : Hid (longE FB ≠ 0) := by unfold Hid; rw [hEB]; exact hB
          have hn0 := hnz hB
          have h5 : EB = 5 := by
            rcases hte hn0 with h | h
            · omega
            · exact h
          have hnb : ((n : Int) == 0) = false := by rw [beq_eq_false_iff_ne]; omega
          clear hA hB hte hnz hEA
          have HEB5 : Hid (longE FB = 5) := by unfold Hid; rw [hEB, h5]
          clear hEB h5 HEB
          have HEB := HEB5
          go_upto_region 14 with (go_at_call 9; refine (PC.out).mono ?_; rintro e2 w2 ⟨hp2, hg2⟩; rcases hp2.out with ⟨hx, _⟩ | ⟨_, v2, rfl, hpl2⟩; (exact absurd HLA.out hx))
          have HPL2 := Lib.hid hpl2
          obtain ⟨wf, rfl⟩ : ∃ wf : World, wf = w2 := ⟨_, rfl⟩
          have HGF : Hid (w.grownBy wf none) := grown_trans HGE.out hg2.out
          have HGCF : Hid (wc.grownBy wf none) := grown_trans HGCE.out hg2.out
          clear hp2
          have HSB : Hid (Secs (wf.alloc (.cells #[.int .i64 (-1), .int .i64 ticks] 31)) (.slice a8 n c8) FB) := by
            unfold Hid
            rw [← HFB.out]
            have hz := grown_alloc HGF.out (.cells #[.int .i64 (-1), .int .i64 ticks] 31)
            exact cpy_secs (evs_grown HE.out hz) (HK.out.grown hz) (own_kept HOC.out (grown_alloc HGCF.out _))
          have PC2 := Lib.hid (Play_calls FB _ (some ⟨wf.heap.size, 0, none⟩) 1 [⟨-1, ticks⟩] (wf.alloc (.cells #[.int .i64 (-1), .int .i64 ticks] 31)) HSB.out (turn1 wf (-1) ticks) (by simp))
          rw [List.length_singleton] at PC2
          have HGG : Hid (w.grownBy (wf.alloc (.cells #[.int .i64 (-1), .int .i64 ticks] 31)) none) := grown_alloc HGF.out _
          have HGFF : Hid (wf.grownBy (wf.alloc (.cells #[.int .i64 (-1), .int .i64 ticks] 31)) none) := grown_alloc (grown_refl _ _) _
          go_upto_region 15 with (go_at_call 9; refine (PC2.out).mono ?_; rintro e3 w3 ⟨hp3, hg3⟩; rcases hp3.out with ⟨_, rfl⟩ | ⟨hx, _⟩; rotate_left; (exact absurd hx HLB.out); rw [HEB.out])
          obtain ⟨wh, rfl⟩ : ∃ wh : World, wh = w3 := ⟨_, rfl⟩
          have HGH : Hid (w.grownBy wh none) := grown_trans HGG.out hg3.out
          clear hp3
          go_wp2_with fail
          go_ret
          exact ⟨rfl, HGH.out⟩
      · have HLA : Hid (longE FA ≠ 0) := by unfold Hid; rw [hEA]; exact hA
        have hab : (EA != 0) = true := by simpa using hA
        by_cases hB : EB = 0
        · have HLB : Hid (longE FB = 0) := by unfold Hid; rw [hEB, hB]
          have hn0 : n = 0 := by
            rcases Nat.eq_zero_or_pos n with h | h
            · exact h
            · rcases hte h with h | h <;> omega
          have hnb : ((n : Int) == 0) = true := by rw [hn0]; rfl
          clear hA hB hte hnz hEA hEB hn0
          go_upto_region 14 with (go_at_call 9; refine (PC.out).mono ?_; rintro e2 w2 ⟨hp2, hg2⟩; rcases hp2.out with ⟨_, rfl⟩ | ⟨hx, _⟩; rotate_left; (exact absurd hx HLA.out); rw [HEA.out])
          obtain ⟨wf, rfl⟩ : ∃ wf : World, wf = w2 := ⟨_, rfl⟩
          have HGF : Hid (w.grownBy wf none) := grown_trans HGE.out hg2.out
          have HGCF : Hid (wc.grownBy wf none) := grown_trans HGCE.out hg2.out
          clear hp2
          have HSB : Hid (Secs (wf.alloc (.cells #[.int .i64 (-1), .int .i64 ticks] 31)) (.slice a8 n c8) FB) := by
            unfold Hid
            rw [← HFB.out]
            have hz := grown_alloc HGF.out (.cells #[.int .i64 (-1), .int .i64 ticks] 31)
            exact cpy_secs (evs_grown HE.out hz) (HK.out.grown hz) (own_kept HOC.out (grown_alloc HGCF.out _))
          have PC2 := Lib.hid (Play_calls FB _ (some ⟨wf.heap.size, 0, none⟩) 1 [⟨-1, ticks⟩] (wf.alloc (.cells #[.int .i64 (-1), .int .i64 ticks] 31)) HSB.out (turn1 wf (-1) ticks) (by simp))
          rw [List.length_singleton] at PC2
          have HGG : Hid (w.grownBy (wf.alloc (.cells #[.int .i64 (-1), .int .i64 ticks] 31)) none) := grown_alloc HGF.out _
          have HGFF : Hid (wf.grownBy (wf.alloc (.cells #[.int .i64 (-1), .int .i64 ticks] 31)) none) := grown_alloc (grown_refl _ _) _
          go_upto_region 15 with (go_at_call 9; refine (PC2.out).mono ?_; rintro e3 w3 ⟨hp3, hg3⟩; rcases hp3.out with ⟨hx, _⟩ | ⟨_, v3, rfl, hpl3⟩; (exact absurd HLB.out hx))
          obtain ⟨wh, rfl⟩ : ∃ wh : World, wh = w3 := ⟨_, rfl⟩
          have HGH : Hid (w.grownBy wh none) := grown_trans HGG.out hg3.out
          have HPL3 := Lib.hid hpl3
          clear hp3 hpl3
          go_wp2_with fail
          go_ret
          exact ⟨rfl, HGH.out⟩
        · have HLB : Hid (longE FB ≠ 0) := by unfold Hid; rw [hEB]; exact hB
          have hn0 := hnz hB
          have hnb : ((n : Int) == 0) = false := by rw [beq_eq_false_iff_ne]; omega
          have hbb : (EB != 0) = true := by simpa using hB
          have hor := hte hn0
          clear hA hB hte hnz hEA hEB
          go_upto_region 14 with (go_at_call 9; refine (PC.out).mono ?_; rintro e2 w2 ⟨hp2, hg2⟩; rcases hp2.out with ⟨_, rfl⟩ | ⟨hx, _⟩; rotate_left; (exact absurd hx HLA.out); rw [HEA.out])
          obtain ⟨wf, rfl⟩ : ∃ wf : World, wf = w2 := ⟨_, rfl⟩
          have HGF : Hid (w.grownBy wf none) := grown_trans HGE.out hg2.out
          have HGCF : Hid (wc.grownBy wf none) := grown_trans HGCE.out hg2.out
          clear hp2
          have HSB : Hid (Secs (wf.alloc (.cells #[.int .i64 (-1), .int .i64 ticks] 31)) (.slice a8 n c8) FB) := by
            unfold Hid
            rw [← HFB.out]
            have hz := grown_alloc HGF.out (.cells #[.int .i64 (-1), .int .i64 ticks] 31)
            exact cpy_secs (evs_grown HE.out hz) (HK.out.grown hz) (own_kept HOC.out (grown_alloc HGCF.out _))
          have PC2 := Lib.hid (Play_calls FB _ (some ⟨wf.heap.size, 0, none⟩) 1 [⟨-1, ticks⟩] (wf.alloc (.cells #[.int .i64 (-1), .int .i64 ticks] 31)) HSB.out (turn1 wf (-1) ticks) (by simp))
          rw [List.length_singleton] at PC2
          have HGG : Hid (w.grownBy (wf.alloc (.cells #[.int .i64 (-1), .int .i64 ticks] 31)) none) := grown_alloc HGF.out _
          have HGFF : Hid (wf.grownBy (wf.alloc (.cells #[.int .i64 (-1), .int .i64 ticks] 31)) none) := grown_alloc (grown_refl _ _) _
          go_upto_region 15 with (go_at_call 9; refine (PC2.out).mono ?_; rintro e3 w3 ⟨hp3, hg3⟩; rcases hp3.out with ⟨_, rfl⟩ | ⟨hx, _⟩; rotate_left; (exact absurd hx HLB.out); rw [HEB.out])
          obtain ⟨wh, rfl⟩ : ∃ wh : World, wh = w3 := ⟨_, rfl⟩
          have HGH : Hid (w.grownBy wh none) := grown_trans HGG.out hg3.out
          clear hp3
          rcases hor with h | h
          · have hee : (EA == EB) = true := by rw [h]; simp
            clear h
            go_wp2_with fail
            go_ret
            exact ⟨rfl, HGH.out⟩
          · subst h
            by_cases he : EA = 5
            · have hee : (EA == 5) = true := by rw [he]; rfl
              clear he
              go_wp2_with fail
              go_ret
              exact ⟨rfl, HGH.out⟩
            · have hee : (EA == 5) = false := by rw [beq_eq_false_iff_ne]; exact he
              clear he
              go_wp2_with fail
              go_ret
              exact ⟨rfl, HGH.out⟩
    have hin : i < n := by omega
    have hin2 : (i : Int) < (n : Int) := by omega
    have HR7r : Hid (wr.heap[p7]? = some (.cells #[.int .i64 1, .int .i64 l, .slice ae ne ce, .slice ak nk ck] 44 (0, 0))) := row_kept HG.out HR7.out (by simp)
    have c0 := cell_of HR7r.out 0
    have c1 := cell_of HR7r.out 1
    have c2 := cell_of HR7r.out 2
    have c3 := cell_of HR7r.out 3
    have hsz : B ≤ wr.heap.size := by rw [← HB.out]; exact HG.out.size
    go_upto_region 10 with (at_builtin; refine append_one rfl _ _ 22 rfl B 44 i0 _ 4 64 Try.underlying22 hi hz0 hz1 hz2 rfl (by decide) u8 i (cpC l (.slice ae ne ce) (.slice ak nk ck) i) rfl wr _ _ HO.out rfl rfl (by simp [Value.oneCell']) (by unfold maxLen; omega) (by omega) hsz ?_; intro v9 w9 hown9 hg9 hat9)
    have HO9 : Hid (w9.ownsRow B 44 4 v9 (i + 1) (cpC l (.slice ae ne ce) (.slice ak nk ck) (i + 1))) := by
      unfold Hid
      rw [cpC_succ]
      exact hown9.out
    have HG9 : Hid (wb.grownBy w9 none) := grown_own HG.out HO.out (by rw [HB.out]; exact Nat.le_refl _) hg9.out
    clear hat9 c0 c1 c2 c3
    go_wp2_with fail
    refine ⟨?_, by simp [intOf]; omega⟩
    first
      | exact ⟨i + 1, by omega, rfl, HO9.out, HG9.out⟩
      | (repeat apply Exists.intro
         refine ⟨?_, rfl⟩
         exact ⟨i + 1, by omega, rfl, HO9.out, HG9.out⟩)
end Go.Proofs.Ythmcicmebaibgaa.TTimes
