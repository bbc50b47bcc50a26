/- measure: the walk. -/
import Derived.Test.YthmcicmebaibgaaTIdx
import Derived.Test.YthmcicmebaibgaaTSame
import Derived.Test.YthmcicmebaibgaaTApp
namespace Go.Proofs.Ythmcicmebaibgaa.TMeas
open Go Go.RowKit Go.Proofs.Ythmcicmebaibgaa.WMod Go.Proofs.Ythmcicmebaibgaa.TMod Go.Proofs.Ythmcicmebaibgaa.TRead Go.Proofs.Ythmcicmebaibgaa.TSz Go.Proofs.Ythmcicmebaibgaa.TEv Go.Proofs.Ythmcicmebaibgaa.TIdx Go.Proofs.Ythmcicmebaibgaa.Opn Go.Proofs.Ythmcicmebaibgaa.Hp Go.Proofs.Ythmcicmebaibgaa.Rd Go.Proofs.Ythmcicmebaibgaa.TWWrong Go.Proofs.Ythmcicmebaibgaa.TSame Go.Proofs.Ythmcicmebaibgaa.TApp
set_option linter.unusedVariables false
set_option linter.unusedSimpArgs false

theorem info74 : (Try.prog.info? 74).map (fun i => (i.zero, i.size, i.bytes)) = some (some (.agg #[.int .i64 0, .int .i64 0, .slice none 0 0, .slice none 0 0, .int .i64 0, .int .i64 0, .bool false, .slice none 0 0]), 8, 112) := by kernel_rfl

theorem row_kept {a b : World} (h : a.grownBy b none) {i : Nat} {o : Obj} (hi : a.heap[i]? = some o) : b.heap[i]? = some o := by
  rw [h.block i (lt_of hi) (by simp)]
  exact hi

/-- What may be read of what measure has made so far. -/
def Aw (B : Nat) (v : Value) (w : World) : Nat → Prop := fun b => B ≤ b ∧ b < w.heap.size ∧ v.ownBlock ≠ some b

set_option maxHeartbeats 6000000 in
set_option maxRecDepth 100000 in
theorem measure_calls : ∀ (N : Nat) (f : For), f.size < N → ∀ (v : Value) (w0 w : World), Fine f → f.size ≤ 256 → dur f ≤ 1125899906842624 → Secs w0 v f → w0.grownBy w none →
    Calls Try.prog 22 #[v] w fun e w' => ∃ u, e = .returned (.tuple #[u, .int .i64 (dur f)]) ∧ Hid (SzV w' (fun b => w.heap.size ≤ b ∧ b < w'.heap.size) u f) ∧ Hid (w.grownBy w' none) := by
  intro N
  induction N with
  | zero => intro f h; omega
  | succ N IH =>
    intro f hN v w0 w hfine hsize hdur hsec hg
    obtain ⟨ao, c, rfl⟩ := secs_open hsec
    have HSEC := Lib.hid hsec
    have HFINE := Lib.hid hfine
    have IH' := Lib.hid (fun (k : For) (hk : k.size < f.size) => IH k (by omega))
    have HSIZE := Lib.hid hsize
    have hl256 : f.len ≤ 256 := Nat.le_trans (len_size f) hsize
    obtain ⟨n, hn⟩ : ∃ n, f.len = n := ⟨_, rfl⟩
    have HN := Lib.hid hn
    have HG := Lib.hid hg
    obtain ⟨DF, hDF⟩ : ∃ DF, dur f = DF := ⟨_, rfl⟩
    have HDF := Lib.hid hDF
    have hdf0 : 0 ≤ DF := by rw [← hDF]; exact dur_nonneg hfine
    rw [hn] at hl256 ⊢
    rw [hDF] at hdur ⊢
    obtain ⟨i0, hi, hz0, hz1, hz2⟩ := info_parts info74
    obtain ⟨B, hB⟩ : ∃ B, w.heap.size = B := ⟨_, rfl⟩
    have HB := Lib.hid hB
    simp only [hB]
    clear hsec hn hg hfine hsize hDF IH hB
    go_enter Try.func22, Try.ntmps22
    go_wp2_with fail
    go_loopw [4, 5, 13] (fun v4 v5 v13 wr => ∃ (i : Nat) (m : Int) (cs : List Value), i ≤ n ∧ v13 = .int .i64 (i : Int) ∧ v5 = .int .i64 m ∧ 0 ≤ m ∧ Hid (m + dur (f.drop i) = DF) ∧ Hid (wr.ownsRow B 74 8 v4 i cs) ∧ Hid (Els wr (Aw B v4 wr) f i cs) ∧ Hid (w.grownBy wr none)) (fun _ _ v13 _ => n - (intOf v13).toNat)
    case atStart =>
      refine ⟨0, 0, [], Nat.zero_le _, rfl, rfl, by omega, ?_, World.ownsRow_nil _ _ _ _, Els.zero _ _ _, grown_refl _ _⟩
      unfold Hid
      show 0 + dur f = DF
      rw [HDF.out]
      omega
    case round =>
      obtain ⟨i, m, cs, hi1, rfl, rfl, hm0, HM, HO, HE, HGW⟩ := hrel
      by_cases hie : i = n
      · have hmd : m = DF := by
          have h := HM.out
          unfold Hid at h
          rw [hie, ← HN.out, For.drop_end] at h
          simp only [dur] at h
          omega
        subst hmd
        have HRES : Hid (SzV wr (fun b => B ≤ b ∧ b < wr.heap.size) u4 f) := by
          unfold Hid
          have hE := HE.out
          unfold Hid at hE
          rw [hie, ← HN.out] at hE
          rcases HO.out.2 with ⟨hv, h0⟩ | ⟨g, cap, cur, hv, hb, hgg, hc, hmm, hs, ht⟩
          · have hf0 : f = .nil := For.len_zero (by rw [HN.out]; omega)
            rw [hv, hf0]
            exact .mt none 0
          · have hge := Els.mono (A' := fun b => B ≤ b ∧ b < wr.heap.size) hE (fun b hb => ⟨hb.1, hb.2.1⟩)
            have := hge.szv (g := g) (cap := cap) ⟨hb, lt_of hgg⟩ (fun j u hu => by
              rw [cell_of hgg]
              rw [← ht, List.getElem?_take] at hu
              split at hu
              · simpa using hu
              · cases hu)
            rw [hv, hie, ← HN.out]
            exact this
        subst hie
        go_wp2_with fail
        go_ret2
        exact ⟨_, rfl, HRES.out, HGW.out⟩
      have hin : i < n := by omega
      have hin2 : (i : Int) < (n : Int) := by omega
      obtain ⟨t, l, evs, k, r, hd⟩ := For.drop_cons (f := f) (n := i) (by rw [HN.out]; exact hin)
      obtain ⟨b, o, ve, vk, rfl, h0, h1, h2, h3, hev, hks⟩ := secs_at HSEC.out hd
      have HGR : Hid (w0.grownBy wr none) := grown_trans HG.out HGW.out
      have c0 := grown_cell HGR.out h0 (by simp)
      have c1 := grown_cell HGR.out h1 (by simp)
      have c2 := grown_cell HGR.out h2 (by simp)
      have c3 := grown_cell HGR.out h3 (by simp)
      have HK := Lib.hid (For.size_kids hd)
      have HD := Lib.hid hd
      have hfd := fine_drop i f HFINE.out
      rw [hd] at hfd
      obtain ⟨⟨ht0, ht1⟩, ⟨hl0, hl1⟩, hwr, _, hfk, hfr, ⟨dk0, dk1⟩, dr0⟩ := hfd
      have hmd := HM.out
      unfold Hid at hmd
      rw [hd] at hmd
      simp only [dur] at hmd
      have hne5 : evs.length ≤ 4096 := by
        unfold wrong at hwr
        split at hwr
        · cases hwr
        · omega
      have HFK := Lib.hid hfk
      unfold total at dk1
      obtain ⟨K, hK⟩ : ∃ K, dur k = K := ⟨_, rfl⟩
      have HKK := Lib.hid hK
      obtain ⟨DR, hDR⟩ : ∃ DR, dur r = DR := ⟨_, rfl⟩
      have HDR := Lib.hid hDR
      rw [hK] at dk0 dk1 hmd
      rw [hDR] at dr0 hmd
      obtain ⟨X, hX⟩ : ∃ X, l + K = X := ⟨_, rfl⟩
      rw [hX] at hmd
      obtain ⟨Y, hY⟩ : ∃ Y, t * X = Y := ⟨_, rfl⟩
      have hX0 : 0 ≤ X := by omega
      have hX1 : X ≤ 1125899906842624 + 65536 := by omega
      have hY0 : 0 ≤ Y := by rw [← hY]; exact Int.mul_nonneg ht0 hX0
      rw [hY] at hmd
      have hY1 : Y ≤ 1125899906842624 := by omega
      have hmY : m + Y ≤ 1125899906842624 := by omega
      have HMD := Lib.hid hmd
      have HX := Lib.hid hX
      have HY := Lib.hid hY
      obtain ⟨ae, ce, rfl⟩ := evs_len hev
      obtain ⟨ak, ck, rfl⟩ := secs_open hks
      have HEV := Lib.hid hev
      have HKS := Lib.hid hks
      obtain ⟨ne, hne⟩ : ∃ ne, evs.length = ne := ⟨_, rfl⟩
      obtain ⟨nk, hnk⟩ : ∃ nk, k.len = nk := ⟨_, rfl⟩
      have HNE := Lib.hid hne
      have HNK := Lib.hid hnk
      have hnkl : nk ≤ 256 := by rw [← hnk]; have := len_size k; have := HK.out; have := HSIZE.out; unfold Hid at *; omega
      rw [hne] at c2 hne5
      rw [hnk] at c3
      clear hd h0 h1 h2 h3 hev hks hne hnk hfk hfr hwr hmd hX hY hK hDR HM
      obtain ⟨sb, hsb⟩ : ∃ sb, wr.heap.size = sb := ⟨_, rfl⟩
      have HGN : Hid (wr.grownBy (wr.alloc (.cells #[.int .i64 t, .int .i64 l, .slice ae ne ce, .slice ak nk ck] 44)) none) := grown_alloc (grown_refl _ _) _
      have HRB : Hid ((wr.alloc (.cells #[.int .i64 t, .int .i64 l, .slice ae ne ce, .slice ak nk ck] 44)).heap[sb]? = some (.cells #[.int .i64 t, .int .i64 l, .slice ae ne ce, .slice ak nk ck] 44 (0, 0))) := by unfold Hid; rw [← hsb]; exact heap_alloc_new _ _
      have HSB := Lib.hid hsb
      clear hsb
      go_upto_region 6 with fail
      simp only [HSB.out]
      obtain ⟨wa, hwa⟩ : ∃ wa, wr.alloc (.cells #[.int .i64 t, .int .i64 l, .slice ae ne ce, .slice ak nk ck] 44) = wa := ⟨_, rfl⟩
      rw [hwa] at HRB HGN
      simp only [hwa]
      clear hwa c0 c1 c2 c3
      have b3 := cell_of HRB.out 3
      have HGA : Hid (w0.grownBy wa none) := grown_trans HGR.out HGN.out
      have MC := Lib.hid (IH'.out k HK.out (.slice ak nk ck) w0 wa HFK.out (by have := HK.out; have := HSIZE.out; unfold Hid at *; omega) (by rw [HKK.out]; exact dk1) (by have := HKS.out; unfold Hid at this; rw [HNK.out] at this; exact this) HGA.out)
      rw [HKK.out] at MC
      go_upto_region 7 with (go_at_call 22; refine (MC.out).mono ?_; rintro e1 w1 ⟨u, rfl, hsz1, hg1⟩)
      obtain ⟨ax, cx, rfl⟩ := szv_open hsz1.out
      rw [HNK.out] at hsz1 ⊢
      obtain ⟨wb, rfl⟩ : ∃ wb : World, wb = w1 := ⟨_, rfl⟩
      have HRB1 : Hid (wb.heap[sb]? = some (.cells #[.int .i64 t, .int .i64 l, .slice ae ne ce, .slice ak nk ck] 44 (0, 0))) := row_kept hg1.out HRB.out
      have HGB : Hid (w0.grownBy wb none) := grown_trans HGA.out hg1.out
      have HGWB : Hid (w.grownBy wb none) := grown_trans HGW.out (grown_trans HGN.out hg1.out)
      have HGRB : Hid (wr.grownBy wb none) := grown_trans HGN.out hg1.out
      have d0 := cell_of HRB1.out 0
      have d1 := cell_of HRB1.out 1
      have d2 := cell_of HRB1.out 2
      have d3 := cell_of HRB1.out 3
      obtain ⟨sx, hsx⟩ : ∃ sx, wb.heap.size = sx := ⟨_, rfl⟩
      have ex : IntKind.i64.wrap (l + K) = X := by rw [HX.out]; exact IntWalk.i64_in _ (by omega)
      have HSX := Lib.hid hsx
      clear hsx b3
      go_upto_region 8 with fail
      simp only [HSX.out]
      obtain ⟨wc, hwc⟩ : ∃ wc, wb.alloc (.cells #[.int .i64 t, .int .i64 l, .slice ae ne ce, .slice ak nk ck, .int .i64 X, .int .i64 0, .bool false, .slice ax nk cx] 74) = wc := ⟨_, rfl⟩
      have HGBC : Hid (wb.grownBy wc none) := by unfold Hid; rw [← hwc]; exact grown_alloc (grown_refl _ _) _
      have HRX : Hid (wc.heap[sx]? = some (.cells #[.int .i64 t, .int .i64 l, .slice ae ne ce, .slice ak nk ck, .int .i64 X, .int .i64 0, .bool false, .slice ax nk cx] 74 (0, 0))) := by unfold Hid; rw [← hwc, ← HSX.out]; exact heap_alloc_new _ _
      simp only [hwc]
      clear hwc d0 d1 d2 d3
      have HRB2 : Hid (wc.heap[sb]? = some (.cells #[.int .i64 t, .int .i64 l, .slice ae ne ce, .slice ak nk ck] 44 (0, 0))) := row_kept HGBC.out HRB1.out
      have d2 := cell_of HRB2.out 2
      have HGC : Hid (w0.grownBy wc none) := grown_trans HGB.out HGBC.out
      have CC := Lib.hid (clone_calls ae ce evs wc (evs_grown HEV.out HGC.out) (by rw [HNE.out]; omega))
      rw [HNE.out] at CC
      have ey : IntKind.i64.wrap (t * X) = Y := by rw [HY.out]; exact IntWalk.i64_in _ (by omega)
      have em : IntKind.i64.wrap (m + Y) = m + Y := IntWalk.i64_in _ (by omega)
      obtain ⟨wcc, hwcc⟩ : ∃ wcc, wcc = wc := ⟨_, rfl⟩
      go_upto_region 9 with (go_at_call 27; refine (CC.out).mono ?_; rintro e2 w2 ⟨v2, rfl, hev2, hg2⟩; obtain ⟨a2, c2, rfl⟩ := evs_len (EvsA.evs hev2.out); have HRX2 : Hid (w2.heap[sx]? = some (.cells #[.int .i64 t, .int .i64 l, .slice ae ne ce, .slice ak nk ck, .int .i64 X, .int .i64 0, .bool false, .slice ax nk cx] 74 (0, 0))) := row_kept hg2.out HRX.out; have HRB3 : Hid (w2.heap[sb]? = some (.cells #[.int .i64 t, .int .i64 l, .slice ae ne ce, .slice ak nk ck] 44 (0, 0))) := row_kept hg2.out HRB2.out; have q2 := cell_of HRX2.out 2; have qf := free_of HRX2.out 2)
      obtain ⟨wd, hwd⟩ : ∃ wd, w2.setCell ⟨sx, 2, none⟩ (.slice a2 evs.length c2) = wd := ⟨_, rfl⟩
      have HSL : Hid (sb < sx) := by unfold Hid; rw [← HSX.out]; exact lt_of HRB1.out
      have HSXC : Hid (sx < wc.heap.size) := lt_of HRX.out
      have HRX3 : Hid (wd.heap[sx]? = some (.cells #[.int .i64 t, .int .i64 l, .slice a2 ne c2, .slice ak nk ck, .int .i64 X, .int .i64 0, .bool false, .slice ax nk cx] 74 (0, 0))) := by
        unfold Hid
        rw [← hwd, set_self HRX2.out, HNE.out]
        simp
      have HRB4 : Hid (wd.heap[sb]? = some (.cells #[.int .i64 t, .int .i64 l, .slice ae ne ce, .slice ak nk ck] 44 (0, 0))) := by
        unfold Hid
        rw [← hwd, set_other (by have := HSL.out; unfold Hid at this; show sb ≠ sx; omega)]
        exact HRB3.out
      have HGBD : Hid (wb.grownBy wd none) := by
        unfold Hid
        rw [← hwd]
        exact grown_set (grown_trans HGBC.out hg2.out) (.inr (by show wb.heap.size ≤ sx; rw [HSX.out]; exact Nat.le_refl _)) _
      have HEVD : Hid (EvsA wd (fun q => wc.heap.size ≤ q ∧ q < wd.heap.size) (.slice a2 ne c2) evs) := by
        unfold Hid
        rw [← hwd, ← HNE.out, size_set]
        refine hev2.out.kept (row := some sx) (grown_set (grown_refl _ _) (.inl rfl) _) (fun q hq hA => ?_)
        injection hq with hq
        have := HSXC.out
        unfold Hid at this
        omega
      simp only [hwd]
      rw [HNE.out]
      clear hwd d2 q2 qf
      have g0 := cell_of HRB4.out 0
      have g4 := cell_of HRX3.out 4
      have g5 := cell_of HRX3.out 5
      have gf := free_of HRX3.out 5
      go_upto_region 10 with fail
      obtain ⟨we, hwe⟩ : ∃ we, wd.setCell ⟨sx, 5, none⟩ (.int .i64 Y) = we := ⟨_, rfl⟩
      have HRX4 : Hid (we.heap[sx]? = some (.cells #[.int .i64 t, .int .i64 l, .slice a2 ne c2, .slice ak nk ck, .int .i64 X, .int .i64 Y, .bool false, .slice ax nk cx] 74 (0, 0))) := by
        unfold Hid
        rw [← hwe, set_self HRX3.out]
        simp
      have HRB5 : Hid (we.heap[sb]? = some (.cells #[.int .i64 t, .int .i64 l, .slice ae ne ce, .slice ak nk ck] 44 (0, 0))) := by
        unfold Hid
        rw [← hwe, set_other (by have := HSL.out; unfold Hid at this; show sb ≠ sx; omega)]
        exact HRB4.out
      have HGBE : Hid (wb.grownBy we none) := by
        unfold Hid
        rw [← hwe]
        exact grown_set HGBD.out (.inr (by show wb.heap.size ≤ sx; rw [HSX.out]; exact Nat.le_refl _)) _
      have HEVE : Hid (EvsA we (fun q => wc.heap.size ≤ q ∧ q < we.heap.size) (.slice a2 ne c2) evs) := by
        unfold Hid
        rw [← hwe, size_set]
        refine HEVD.out.kept (row := some sx) (grown_set (grown_refl _ _) (.inl rfl) _) (fun q hq hA => ?_)
        injection hq with hq
        have := HSXC.out
        unfold Hid at this
        omega
      simp only [hwe]
      clear hwe g0 g4 g5 gf
      have g2 := cell_of HRB5.out 2
      have g6 := cell_of HRX4.out 6
      have gf := free_of HRX4.out 6
      have HSZ : Hid (SzV we (fun q => wa.heap.size ≤ q ∧ q < wb.heap.size) (.slice ax nk cx) k) := hsz1.out.kept HGBE.out (by simp)
      have SC := Lib.hid (has_calls (fun q => wa.heap.size ≤ q ∧ q < wb.heap.size) ax cx k we (by rw [HNK.out]; exact HSZ.out) (by rw [HNK.out]; omega))
      rw [HNK.out] at SC
      by_cases hne0 : ne = 0
      · have HZ := Lib.hid hne0
        have hz : (ne : Int) ≤ 0 := by omega
        clear hne0
        obtain ⟨sm, hsm⟩ : ∃ sm, someK k = sm := ⟨_, rfl⟩
        rw [hsm] at SC
        have HSM : Hid (someS evs k = sm) := by
          unfold Hid someS
          have : evs = [] := List.eq_nil_of_length_eq_zero (by rw [HNE.out, HZ.out])
          rw [this, hsm]
          rfl
        clear hsm
        go_upto_region 11 with (go_at_call 28; refine (SC.out).mono ?_; rintro e3 w3 ⟨rfl, hg3⟩; have HRX5 : Hid (w3.heap[sx]? = some (.cells #[.int .i64 t, .int .i64 l, .slice a2 ne c2, .slice ak nk ck, .int .i64 X, .int .i64 Y, .bool false, .slice ax nk cx] 74 (0, 0))) := row_kept hg3.out HRX4.out; have g6' := cell_of HRX5.out 6; have gf' := free_of HRX5.out 6)
        obtain ⟨wf, hwf⟩ : ∃ wf, w3.setCell ⟨sx, 6, none⟩ (.bool sm) = wf := ⟨_, rfl⟩
        have HRXF : Hid (wf.heap[sx]? = some (.cells #[.int .i64 t, .int .i64 l, .slice a2 ne c2, .slice ak nk ck, .int .i64 X, .int .i64 Y, .bool sm, .slice ax nk cx] 74 (0, 0))) := by
          unfold Hid
          rw [← hwf, set_self HRX5.out]
          simp
        have HGBF : Hid (wb.grownBy wf none) := by
          unfold Hid
          rw [← hwf]
          exact grown_set (grown_trans HGBE.out hg3.out) (.inr (by show wb.heap.size ≤ sx; rw [HSX.out]; exact Nat.le_refl _)) _
        have HEVF : Hid (EvsA wf (fun q => wc.heap.size ≤ q ∧ q < wf.heap.size) (.slice a2 ne c2) evs) := by
          unfold Hid
          rw [← hwf, size_set]
          refine ((HEVE.out.kept hg3.out (by simp)).mono (fun q (hA : _ ∧ q < we.heap.size) => (⟨hA.1, Nat.lt_of_lt_of_le hA.2 hg3.out.size⟩ : wc.heap.size ≤ q ∧ q < w3.heap.size))).kept (row := some sx) (grown_set (grown_refl _ _) (.inl rfl) _) (fun q hq hA => ?_)
          injection hq with hq
          have := HSXC.out
          unfold Hid at this
          omega
        simp only [hwf]
        clear hwf g2 g6 gf g6' gf'
        have k0 := cell_of HRXF.out 0
        have k1 := cell_of HRXF.out 1
        have k2 := cell_of HRXF.out 2
        have k3 := cell_of HRXF.out 3
        have k4 := cell_of HRXF.out 4
        have k5 := cell_of HRXF.out 5
        have k6 := cell_of HRXF.out 6
        have k7 := cell_of HRXF.out 7
        go_upto_region 12 with fail
        have HGRF : Hid (wr.grownBy wf none) := grown_trans HGRB.out HGBF.out
        have HOF : Hid (wf.ownsRow B 74 8 u4 i cs) := by
          unfold Hid
          exact HO.out.kept HGRF.out (by cases u4.ownBlock <;> simp)
        have HWRB : Hid (B ≤ wr.heap.size) := by unfold Hid; rw [← HB.out]; exact HGW.out.size
        have HAF : Hid (sx < wf.heap.size) := lt_of HRXF.out
        go_upto_region 13 with (at_builtin; refine append_one rfl _ _ 62 rfl B 74 i0 _ 8 112 Try.underlying62 hi hz0 hz1 hz2 rfl (by decide) u4 i cs rfl wf _ _ HOF.out rfl rfl (by simp [Value.oneCell']) (by unfold maxLen; omega) (by omega) (by have h1 := HWRB.out; have h2 := HGRF.out.size; unfold Hid at h1; omega) ?_; intro v9 w9 hown9 hg9 hat9)
        have HGW9 : Hid (w.grownBy w9 none) := grown_app (grown_trans HGW.out HGRF.out) (by rw [HB.out]; exact Nat.le_refl _) HOF.out hg9.out
        have HE9 : Hid (Els w9 (Aw B v9 w9) f (i + 1) (cs ++ szC t l evs k (.slice a2 ne c2) (ak, nk, ck) (.slice ax nk cx))) := by
          unfold Hid
          have s1 := HWRB.out
          have s2 := HGRF.out.size
          have s3 := hg9.out.size
          have s4 := HGRB.out.size
          have s5 := HSX.out
          have s6 := HAF.out
          have s7 := HGBC.out.size
          have s8 : wr.heap.size ≤ wa.heap.size := HGN.out.size
          have s9 := HSXC.out
          unfold Hid at s1 s5 s6 s9
          have hob : ∀ q, u4.ownBlock = some q → B ≤ q ∧ q < wr.heap.size := fun q hq => own_base HO.out hq
          have hnx : ∀ q, q < wf.heap.size → u4.ownBlock ≠ some q → v9.ownBlock ≠ some q := fun q hq hu hv => by
            rcases hat9.out with h | ⟨q2, h, h2⟩
            · exact hu (by rw [← h]; exact hv)
            · rw [h] at hv; injection hv with hv; omega
          refine Els.next ?_ HD.out ?_ ?_
          · refine ((HE.out.kept HGRF.out (by simp)).kept hg9.out (fun b hb hA => hA.2.2 hb)).mono (fun b hA => ?_)
            exact ⟨hA.1, by have := hA.2.1; omega, hnx b (by have := hA.2.1; omega) hA.2.2⟩
          · refine (HEVF.out.kept hg9.out (fun b hb hA => ?_)).mono (fun b hA => ?_)
            · have := hob b hb; omega
            · exact ⟨by omega, by omega, hnx b hA.2 (fun hq => by have := hob b hq; omega)⟩
          · have hK := hsz1.out.kept HGBF.out (by simp)
            refine (hK.kept hg9.out (fun b hb hA => ?_)).mono (fun b hA => ?_)
            · have := hob b hb; omega
            · exact ⟨by omega, by omega, hnx b (by omega) (fun hq => by have := hob b hq; omega)⟩
        have HO9 : Hid (w9.ownsRow B 74 8 v9 (i + 1) (cs ++ szC t l evs k (.slice a2 ne c2) (ak, nk, ck) (.slice ax nk cx))) := by
          unfold Hid szC
          rw [HKK.out, HX.out, HY.out, HSM.out, show ne = 0 from HZ.out]
          exact hown9.out
        have HM9 : Hid (m + Y + dur (f.drop (i + 1)) = DF) := by
          unfold Hid
          rw [For.drop_succ i f HD.out, HDR.out]
          have := HMD.out
          unfold Hid at this
          omega
        go_wp2_with fail
        refine ⟨?_, by simp [intOf]; omega⟩
        first
          | exact ⟨i + 1, m + Y, _, by omega, rfl, rfl, by omega, HM9.out, HO9.out, HE9.out, HGW9.out⟩
          | (repeat apply Exists.intro
             refine ⟨?_, rfl⟩
             exact ⟨i + 1, m + Y, _, by omega, rfl, rfl, by omega, HM9.out, HO9.out, HE9.out, HGW9.out⟩)
      · have hz : (0 : Int) < (ne : Int) := by omega
        clear hne0
        go_upto_region 11 with fail
        have HSM : Hid (someS evs k = true) := by
          unfold Hid someS
          have : evs ≠ [] := by
            intro e
            have := HNE.out
            unfold Hid at this
            rw [e] at this
            simp at this
            omega
          cases evs with
          | nil => exact absurd rfl this
          | cons => rfl
        obtain ⟨wf, hwf⟩ : ∃ wf, we.setCell ⟨sx, 6, none⟩ (.bool true) = wf := ⟨_, rfl⟩
        have HRXF : Hid (wf.heap[sx]? = some (.cells #[.int .i64 t, .int .i64 l, .slice a2 ne c2, .slice ak nk ck, .int .i64 X, .int .i64 Y, .bool true, .slice ax nk cx] 74 (0, 0))) := by
          unfold Hid
          rw [← hwf, set_self HRX4.out]
          simp
        have HGBF : Hid (wb.grownBy wf none) := by
          unfold Hid
          rw [← hwf]
          exact grown_set HGBE.out (.inr (by show wb.heap.size ≤ sx; rw [HSX.out]; exact Nat.le_refl _)) _
        have HEVF : Hid (EvsA wf (fun q => wc.heap.size ≤ q ∧ q < wf.heap.size) (.slice a2 ne c2) evs) := by
          unfold Hid
          rw [← hwf, size_set]
          refine (HEVE.out).kept (row := some sx) (grown_set (grown_refl _ _) (.inl rfl) _) (fun q hq hA => ?_)
          injection hq with hq
          have := HSXC.out
          unfold Hid at this
          omega
        simp only [hwf]
        clear hwf g2 g6 gf
        have k0 := cell_of HRXF.out 0
        have k1 := cell_of HRXF.out 1
        have k2 := cell_of HRXF.out 2
        have k3 := cell_of HRXF.out 3
        have k4 := cell_of HRXF.out 4
        have k5 := cell_of HRXF.out 5
        have k6 := cell_of HRXF.out 6
        have k7 := cell_of HRXF.out 7
        go_upto_region 12 with fail
        have HGRF : Hid (wr.grownBy wf none) := grown_trans HGRB.out HGBF.out
        have HOF : Hid (wf.ownsRow B 74 8 u4 i cs) := by
          unfold Hid
          exact HO.out.kept HGRF.out (by cases u4.ownBlock <;> simp)
        have HWRB : Hid (B ≤ wr.heap.size) := by unfold Hid; rw [← HB.out]; exact HGW.out.size
        have HAF : Hid (sx < wf.heap.size) := lt_of HRXF.out
        go_upto_region 13 with (at_builtin; refine append_one rfl _ _ 62 rfl B 74 i0 _ 8 112 Try.underlying62 hi hz0 hz1 hz2 rfl (by decide) u4 i cs rfl wf _ _ HOF.out rfl rfl (by simp [Value.oneCell']) (by unfold maxLen; omega) (by omega) (by have h1 := HWRB.out; have h2 := HGRF.out.size; unfold Hid at h1; omega) ?_; intro v9 w9 hown9 hg9 hat9)
        have HGW9 : Hid (w.grownBy w9 none) := grown_app (grown_trans HGW.out HGRF.out) (by rw [HB.out]; exact Nat.le_refl _) HOF.out hg9.out
        have HE9 : Hid (Els w9 (Aw B v9 w9) f (i + 1) (cs ++ szC t l evs k (.slice a2 ne c2) (ak, nk, ck) (.slice ax nk cx))) := by
          unfold Hid
          have s1 := HWRB.out
          have s2 := HGRF.out.size
          have s3 := hg9.out.size
          have s4 := HGRB.out.size
          have s5 := HSX.out
          have s6 := HAF.out
          have s7 := HGBC.out.size
          have s8 : wr.heap.size ≤ wa.heap.size := HGN.out.size
          have s9 := HSXC.out
          unfold Hid at s1 s5 s6 s9
          have hob : ∀ q, u4.ownBlock = some q → B ≤ q ∧ q < wr.heap.size := fun q hq => own_base HO.out hq
          have hnx : ∀ q, q < wf.heap.size → u4.ownBlock ≠ some q → v9.ownBlock ≠ some q := fun q hq hu hv => by
            rcases hat9.out with h | ⟨q2, h, h2⟩
            · exact hu (by rw [← h]; exact hv)
            · rw [h] at hv; injection hv with hv; omega
          refine Els.next ?_ HD.out ?_ ?_
          · refine ((HE.out.kept HGRF.out (by simp)).kept hg9.out (fun b hb hA => hA.2.2 hb)).mono (fun b hA => ?_)
            exact ⟨hA.1, by have := hA.2.1; omega, hnx b (by have := hA.2.1; omega) hA.2.2⟩
          · refine (HEVF.out.kept hg9.out (fun b hb hA => ?_)).mono (fun b hA => ?_)
            · have := hob b hb; omega
            · exact ⟨by omega, by omega, hnx b hA.2 (fun hq => by have := hob b hq; omega)⟩
          · have hK := hsz1.out.kept HGBF.out (by simp)
            refine (hK.kept hg9.out (fun b hb hA => ?_)).mono (fun b hA => ?_)
            · have := hob b hb; omega
            · exact ⟨by omega, by omega, hnx b (by omega) (fun hq => by have := hob b hq; omega)⟩
        have HO9 : Hid (w9.ownsRow B 74 8 v9 (i + 1) (cs ++ szC t l evs k (.slice a2 ne c2) (ak, nk, ck) (.slice ax nk cx))) := by
          unfold Hid szC
          rw [HKK.out, HX.out, HY.out, HSM.out]
          exact hown9.out
        have HM9 : Hid (m + Y + dur (f.drop (i + 1)) = DF) := by
          unfold Hid
          rw [For.drop_succ i f HD.out, HDR.out]
          have := HMD.out
          unfold Hid at this
          omega
        go_wp2_with fail
        refine ⟨?_, by simp [intOf]; omega⟩
        first
          | exact ⟨i + 1, m + Y, _, by omega, rfl, rfl, by omega, HM9.out, HO9.out, HE9.out, HGW9.out⟩
          | (repeat apply Exists.intro
             refine ⟨?_, rfl⟩
             exact ⟨i + 1, m + Y, _, by omega, rfl, rfl, by omega, HM9.out, HO9.out, HE9.out, HGW9.out⟩)

end Go.Proofs.Ythmcicmebaibgaa.TMeas
