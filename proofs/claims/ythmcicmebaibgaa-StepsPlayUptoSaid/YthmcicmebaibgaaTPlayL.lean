/- The law StepsPlay: its walk. -/
import Derived.Test.YthmcicmebaibgaaTRNext
import Derived.Test.YthmcicmebaibgaaTLit
namespace Go.Proofs.Ythmcicmebaibgaa.TPlayL
open Go Go.RowKit Go.Proofs.Ythmcicmebaibgaa.WMod Go.Proofs.Ythmcicmebaibgaa.TMod Go.Proofs.Ythmcicmebaibgaa.TRead Go.Proofs.Ythmcicmebaibgaa.TNext Go.Proofs.Ythmcicmebaibgaa.TRNext Go.Proofs.Ythmcicmebaibgaa.TPlr Go.Proofs.Ythmcicmebaibgaa.TPm Go.Proofs.Ythmcicmebaibgaa.TPly Go.Proofs.Ythmcicmebaibgaa.TLit Go.Proofs.Ythmcicmebaibgaa.TWin Go.Proofs.Ythmcicmebaibgaa.Opn Go.Proofs.Ythmcicmebaibgaa.Hp Go.Proofs.Ythmcicmebaibgaa.Rd Go.Proofs.Ythmcicmebaibgaa.TWWrong Go.Proofs.Ythmcicmebaibgaa.TSame Go.Proofs.Ythmcicmebaibgaa.TSameQ
set_option linter.unusedVariables false
set_option linter.unusedSimpArgs false

theorem playR_get (f : For) : ∀ (ts : List Tn) (a : Int) (i : Nat) (t : Tn), ts[i]? = some t → (playR f a ts)[i]? = some (turnR f (atR f a (ts.take i)) t)
  | [], a, i, t, h => by simp at h
  | x :: ts, a, 0, t, h => by
    simp at h
    subst h
    rfl
  | x :: ts, a, i + 1, t, h => by
    have := playR_get f ts (turnR f a x).at_ i t (by simpa using h)
    simpa [playR, atR] using this

set_option maxHeartbeats 8000000 in
set_option maxRecDepth 100000 in
theorem law (f : For) (v : Value) (tao : Option Addr) (tc : Nat) (ts : List Tn) (w : World) (hsec : Secs w v f) (hts : Tns w (.slice tao ts.length tc) ts) (hbig : ts.length ≤ 1099511627776) :
    Calls Try.prog 3 #[v, .slice tao ts.length tc] w fun e w' => e = .returned (.bool true) ∧ Hid (w.grownBy w' none) := by
  have HSEC := Lib.hid hsec
  have HTS := Lib.hid hts
  have LC := Lib.hid (Long_calls f v w hsec)
  have RC := Lib.hid (fun w' (hg : w.grownBy w' none) => rLong_calls f v w' (hsec.grown hg))
  have PC := Lib.hid (fun w' (hg : w.grownBy w' none) => Play_calls f v tao tc ts w' (hsec.grown hg) (tns_grown hts hg) hbig)
  obtain ⟨n, hn⟩ : ∃ n, ts.length = n := ⟨_, rfl⟩
  have HN := Lib.hid hn
  have hsm : (n : Int) ≤ 1099511627776 := by omega
  rw [hn] at HTS PC ⊢
  obtain ⟨LV, hLV⟩ : ∃ LV, longV f = LV := ⟨_, rfl⟩
  obtain ⟨LE, hLE⟩ : ∃ LE, longE f = LE := ⟨_, rfl⟩
  have HLE := Lib.hid hLE
  rw [hLV, hLE] at LC
  simp only [hLV, hLE] at RC
  by_cases hL : LE = 0
  · have HL : Hid (longE f = 0) := by unfold Hid; rw [hLE, hL]
    obtain ⟨hfine, _, hd1, hd0, hsz⟩ := fine_of (hLE.trans hL)
    have HFINE := Lib.hid hfine
    have HD1 := Lib.hid hd1
    have HSZ := Lib.hid hsz
    subst hL
    clear hsec hts hbig hn hLV hLE hfine hd1 hd0 hsz
    go_enter Try.func3, Try.ntmps3
    go_upto_region 2 with (go_at_call 7; refine (LC.out).mono ?_; rintro e1 w1 ⟨rfl, hg1⟩)
    obtain ⟨wa, rfl⟩ : ∃ wa : World, wa = w1 := ⟨_, rfl⟩
    go_upto_region 5 with (go_at_call 8; refine (RC.out wa hg1.out).mono ?_; rintro e2 w2 ⟨rfl, hg2⟩)
    obtain ⟨wb, rfl⟩ : ∃ wb : World, wb = w2 := ⟨_, rfl⟩
    have HGB : Hid (w.grownBy wb none) := grown_trans hg1.out hg2.out
    go_upto_region 6 with (go_at_call 9; refine (PC.out wb HGB.out).mono ?_; rintro e3 w3 ⟨hp3, hg3⟩; rcases hp3.out with ⟨hx, _⟩ | ⟨_, v3, rfl, hpl3⟩; (exact absurd HL.out hx))
    obtain ⟨wc, rfl⟩ : ∃ wc : World, wc = w3 := ⟨_, rfl⟩
    have HPL := Lib.hid hpl3
    have HGC : Hid (w.grownBy wc none) := grown_trans HGB.out hg3.out
    clear hp3 hpl3
    obtain ⟨a3, c3, rfl⟩ := slc_open HPL.out
    rw [playR_len, HN.out] at HPL ⊢
    trace "loop"
    go_wp2_with fail
    go_loopw [10, 63] (fun v10 v63 wr => ∃ (i : Nat) (at_ : Int), i ≤ n ∧ v63 = .int .i64 (i : Int) ∧ v10 = .int .i64 at_ ∧ 0 ≤ at_ ∧ at_ ≤ 1125899906842624 ∧ Hid (atR f 0 (ts.take i) = at_) ∧ Hid (wc.grownBy wr none)) (fun _ v63 _ => n - (intOf v63).toNat)
    case atStart => exact ⟨0, 0, Nat.zero_le _, rfl, rfl, by omega, by omega, rfl, grown_refl _ _⟩
    case round =>
      obtain ⟨i, at_, hi1, rfl, rfl, ha0, ha1, HAT, HG⟩ := hrel
      by_cases hie : i = n
      · have hie2 := hie.symm
        subst hie2
        clear hie hi1
        go_wp2_with fail
        go_ret
        exact ⟨rfl, grown_trans HGC.out HG.out⟩
      have hin : i < n := by omega
      have hin2 : (i : Int) < (n : Int) := by omega
      obtain ⟨tt, htt⟩ : ∃ tt, ts[i]? = some tt := ⟨ts[i]'(by have := HN.out; unfold Hid at this; omega), List.getElem?_eq_getElem _⟩
      obtain ⟨tb, to_, rfl, ht0, ht1⟩ := tns_at HTS.out htt
      have hp := playR_get f ts 0 i tt htt
      rw [HAT.out] at hp
      have HAS : Hid (atR f 0 (ts.take (i + 1)) = (turnR f at_ tt).at_) := by unfold Hid; rw [show ts.take (i + 1) = ts.take i ++ [tt] from by rw [List.take_add_one, htt]; rfl, atR_snoc, HAT.out]
      have hta := turnR_at (f := f) (t := tt) ha0 ha1
      have hsa := seekA_at (t := tt) ha0 ha1
      obtain ⟨A1, hA1⟩ : ∃ A1, seekA at_ tt = A1 := ⟨_, rfl⟩
      obtain ⟨sE, hsE⟩ : ∃ sE, seekE tt = sE := ⟨_, rfl⟩
      obtain ⟨nE, hnE⟩ : ∃ nE, nextR f A1 tt.ticks = nE := ⟨_, rfl⟩
      have htr : turnR f at_ tt = ⟨sE, nE.2.2, nE.1, nE.2.1⟩ := by unfold turnR; rw [hA1, hsE, hnE]
      rw [htr] at hta HAS hp
      rw [hA1] at hsa
      have hlen := nextR_len f A1 tt.ticks
      rw [hnE] at hlen
      obtain ⟨xs, at3, er3⟩ := nE
      obtain ⟨sk, tk⟩ := tt
      simp only at ht0 ht1 hnE hta hlen hp HAS
      obtain ⟨pb, po, ve, hq, q0, q1, q2, q3, hev⟩ := pls_at HPL.out hp
      subst hq
      simp only at q0 q1 q2 q3 hev
      obtain ⟨x2, y2, rfl⟩ := evs_len hev
      have HEV2 := Lib.hid hev
      obtain ⟨xn, hxn⟩ : ∃ xn, xs.length = xn := ⟨_, rfl⟩
      have HXN := Lib.hid hxn
      rw [hxn] at q2 hlen
      have HGR : Hid (w.grownBy wr none) := grown_trans HGC.out HG.out
      have c0 := grown_cell HGR.out ht0 (by simp)
      have c1 := grown_cell HGR.out ht1 (by simp)
      have hA1' := Lib.hid hA1
      have hsE' := Lib.hid hsE
      clear ht0 ht1 htt hp htr hev hxn hA1 hsE
      obtain ⟨sb, hsb⟩ : ∃ sb, wr.heap.size = sb := ⟨_, rfl⟩
      have HSB := Lib.hid hsb
      clear hsb
      go_upto_region 14 with fail
      simp only [HSB.out]
      obtain ⟨wx, hwx⟩ : ∃ wx, wr.alloc (.cells #[.int .i64 sk, .int .i64 tk] 31) = wx := ⟨_, rfl⟩
      have HGX0 : Hid (wr.grownBy wx none) := by unfold Hid; rw [← hwx]; exact grown_alloc (grown_refl _ _) _
      have HRX : Hid (wx.heap[sb]? = some (.cells #[.int .i64 sk, .int .i64 tk] 31 (0, 0))) := by unfold Hid; rw [← hwx, ← HSB.out]; exact heap_alloc_new _ _
      simp only [hwx]
      clear hwx c0 c1
      have HWX : Hid (wc.grownBy wx none) := grown_trans HG.out HGX0.out
      have HGX : Hid (w.grownBy wx none) := grown_trans HGC.out HWX.out
      have d0 := cell_of HRX.out 0
      have d1 := cell_of HRX.out 1
      by_cases k1 : sk < 0
      · have hA : A1 = at_ := by rw [← hA1'.out]; unfold seekA; rw [if_pos k1]
        have hS : sE = 0 := by rw [← hsE'.out]; unfold seekE; rw [if_pos k1]
        subst hA
        subst hS
        clear hA1' hsE'
        have NC := Lib.hid (rNext_calls v f A1 tk wx (HSEC.out.grown HGX.out) HFINE.out HD1.out HSZ.out hsa.1 hsa.2)
        rw [hnE] at NC
        go_upto_region 20 with (go_at_call 10; refine (NC.out).mono ?_; rintro e5 w5 ⟨o5, rfl, hev5, hg5⟩; have HEV5 := Lib.hid hev5.out; have HG5 := Lib.hid hg5.out; clear hev5 hg5; obtain ⟨x5, y5, rfl⟩ := evs_len HEV5.out)
        obtain ⟨wy, rfl⟩ : ∃ wy : World, wy = w5 := ⟨_, rfl⟩
        have HWY : Hid (wc.grownBy wy none) := grown_trans HWX.out HG5.out
        have HGY : Hid (w.grownBy wy none) := grown_trans HGC.out HWY.out
        have r0 := grown_cell HWY.out q0 (by simp)
        have r1 := grown_cell HWY.out q1 (by simp)
        have r2 := grown_cell HWY.out q2 (by simp)
        have r3 := grown_cell HWY.out q3 (by simp)
        have SQ := Lib.hid (same_calls x2 x5 y2 y5 xs wy (evs_grown HEV2.out HWY.out) HEV5.out (by have := HXN.out; unfold Hid at this; omega))
        rw [HXN.out] at SQ
        try rw [HXN.out]
        clear d0 d1
        go_wp2_with (go_at_call 11; refine (SQ.out).mono ?_; rintro e6 w6 ⟨rfl, hg6⟩)
        refine ⟨?_, by simp [intOf]; omega⟩
        first
          | exact ⟨i + 1, at3, by omega, rfl, rfl, hta.1, hta.2, HAS.out, grown_trans HWY.out hg6.out⟩
          | (repeat apply Exists.intro
             refine ⟨?_, rfl⟩
             exact ⟨i + 1, at3, by omega, rfl, rfl, hta.1, hta.2, HAS.out, grown_trans HWY.out hg6.out⟩)
      have k1' : (0 : Int) ≤ sk := by omega
      by_cases k2 : 1125899906842624 < sk
      · have hA : A1 = at_ := by rw [← hA1'.out]; unfold seekA; rw [if_neg k1, if_pos k2]
        have hS : sE = 3 := by rw [← hsE'.out]; unfold seekE; rw [if_neg k1, if_pos k2]
        subst hA
        subst hS
        clear hA1' hsE' k1
        have NC := Lib.hid (rNext_calls v f A1 tk wx (HSEC.out.grown HGX.out) HFINE.out HD1.out HSZ.out hsa.1 hsa.2)
        rw [hnE] at NC
        go_upto_region 20 with (go_at_call 10; refine (NC.out).mono ?_; rintro e5 w5 ⟨o5, rfl, hev5, hg5⟩; have HEV5 := Lib.hid hev5.out; have HG5 := Lib.hid hg5.out; clear hev5 hg5; obtain ⟨x5, y5, rfl⟩ := evs_len HEV5.out)
        obtain ⟨wy, rfl⟩ : ∃ wy : World, wy = w5 := ⟨_, rfl⟩
        have HWY : Hid (wc.grownBy wy none) := grown_trans HWX.out HG5.out
        have HGY : Hid (w.grownBy wy none) := grown_trans HGC.out HWY.out
        have r0 := grown_cell HWY.out q0 (by simp)
        have r1 := grown_cell HWY.out q1 (by simp)
        have r2 := grown_cell HWY.out q2 (by simp)
        have r3 := grown_cell HWY.out q3 (by simp)
        have SQ := Lib.hid (same_calls x2 x5 y2 y5 xs wy (evs_grown HEV2.out HWY.out) HEV5.out (by have := HXN.out; unfold Hid at this; omega))
        rw [HXN.out] at SQ
        try rw [HXN.out]
        clear d0 d1
        go_wp2_with (go_at_call 11; refine (SQ.out).mono ?_; rintro e6 w6 ⟨rfl, hg6⟩)
        refine ⟨?_, by simp [intOf]; omega⟩
        first
          | exact ⟨i + 1, at3, by omega, rfl, rfl, hta.1, hta.2, HAS.out, grown_trans HWY.out hg6.out⟩
          | (repeat apply Exists.intro
             refine ⟨?_, rfl⟩
             exact ⟨i + 1, at3, by omega, rfl, rfl, hta.1, hta.2, HAS.out, grown_trans HWY.out hg6.out⟩)
      have k2' : sk ≤ 1125899906842624 := by omega
      have hA : A1 = sk := by rw [← hA1'.out]; unfold seekA; rw [if_neg k1, if_neg k2]
      have hS : sE = 0 := by rw [← hsE'.out]; unfold seekE; rw [if_neg k1, if_neg k2]
      subst hA
      subst hS
      clear hA1' hsE' k1 k2
      have NC := Lib.hid (rNext_calls v f A1 tk wx (HSEC.out.grown HGX.out) HFINE.out HD1.out HSZ.out hsa.1 hsa.2)
      rw [hnE] at NC
      go_upto_region 20 with (go_at_call 10; refine (NC.out).mono ?_; rintro e5 w5 ⟨o5, rfl, hev5, hg5⟩; have HEV5 := Lib.hid hev5.out; have HG5 := Lib.hid hg5.out; clear hev5 hg5; obtain ⟨x5, y5, rfl⟩ := evs_len HEV5.out)
      obtain ⟨wy, rfl⟩ : ∃ wy : World, wy = w5 := ⟨_, rfl⟩
      have HWY : Hid (wc.grownBy wy none) := grown_trans HWX.out HG5.out
      have HGY : Hid (w.grownBy wy none) := grown_trans HGC.out HWY.out
      have r0 := grown_cell HWY.out q0 (by simp)
      have r1 := grown_cell HWY.out q1 (by simp)
      have r2 := grown_cell HWY.out q2 (by simp)
      have r3 := grown_cell HWY.out q3 (by simp)
      have SQ := Lib.hid (same_calls x2 x5 y2 y5 xs wy (evs_grown HEV2.out HWY.out) HEV5.out (by have := HXN.out; unfold Hid at this; omega))
      rw [HXN.out] at SQ
      try rw [HXN.out]
      clear d0 d1
      go_wp2_with (go_at_call 11; refine (SQ.out).mono ?_; rintro e6 w6 ⟨rfl, hg6⟩)
      refine ⟨?_, by simp [intOf]; omega⟩
      first
        | exact ⟨i + 1, at3, by omega, rfl, rfl, hta.1, hta.2, HAS.out, grown_trans HWY.out hg6.out⟩
        | (repeat apply Exists.intro
           refine ⟨?_, rfl⟩
           exact ⟨i + 1, at3, by omega, rfl, rfl, hta.1, hta.2, HAS.out, grown_trans HWY.out hg6.out⟩)
  · have HL : Hid (longE f ≠ 0) := by unfold Hid; rw [hLE]; exact hL
    have hz : (LE != 0) = true := by simpa using hL
    clear hsec hts hbig hn hLV hLE hL
    go_enter Try.func3, Try.ntmps3
    go_upto_region 2 with (go_at_call 7; refine (LC.out).mono ?_; rintro e1 w1 ⟨rfl, hg1⟩)
    obtain ⟨wa, rfl⟩ : ∃ wa : World, wa = w1 := ⟨_, rfl⟩
    go_upto_region 5 with (go_at_call 8; refine (RC.out wa hg1.out).mono ?_; rintro e2 w2 ⟨rfl, hg2⟩)
    obtain ⟨wb, rfl⟩ : ∃ wb : World, wb = w2 := ⟨_, rfl⟩
    have HGB : Hid (w.grownBy wb none) := grown_trans hg1.out hg2.out
    go_upto_region 6 with (go_at_call 9; refine (PC.out wb HGB.out).mono ?_; rintro e3 w3 ⟨hp3, hg3⟩; rcases hp3.out with ⟨_, rfl⟩ | ⟨hx, _⟩; rotate_left; (exact absurd hx HL.out); rw [HLE.out])
    obtain ⟨wc, rfl⟩ : ∃ wc : World, wc = w3 := ⟨_, rfl⟩
    clear hp3
    go_wp2_with fail
    go_ret
    exact ⟨rfl, grown_trans HGB.out hg3.out⟩
end Go.Proofs.Ythmcicmebaibgaa.TPlayL
