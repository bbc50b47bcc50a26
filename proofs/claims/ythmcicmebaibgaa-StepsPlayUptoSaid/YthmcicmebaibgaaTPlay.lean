/- window.play: the walk. -/
import Derived.Test.YthmcicmebaibgaaTPTimes
namespace Go.Proofs.Ythmcicmebaibgaa.TPlay
open Go Go.RowKit Go.Proofs.Ythmcicmebaibgaa.WMod Go.Proofs.Ythmcicmebaibgaa.TMod Go.Proofs.Ythmcicmebaibgaa.TRead Go.Proofs.Ythmcicmebaibgaa.TSz Go.Proofs.Ythmcicmebaibgaa.TEv Go.Proofs.Ythmcicmebaibgaa.TPl Go.Proofs.Ythmcicmebaibgaa.TApp Go.Proofs.Ythmcicmebaibgaa.TWin Go.Proofs.Ythmcicmebaibgaa.TPEv Go.Proofs.Ythmcicmebaibgaa.TPTimes Go.Proofs.Ythmcicmebaibgaa.Opn Go.Proofs.Ythmcicmebaibgaa.Hp Go.Proofs.Ythmcicmebaibgaa.Rd Go.Proofs.Ythmcicmebaibgaa.TWWrong Go.Proofs.Ythmcicmebaibgaa.TSame
set_option linter.unusedVariables false
set_option linter.unusedSimpArgs false

set_option maxHeartbeats 6000000 in
set_option maxRecDepth 100000 in
theorem play_calls (w0 : World) (wb : Nat) (fr till : Int) (hf0 : 0 ≤ fr) (hf1 : fr ≤ 1125899906842624) (ht2 : till ≤ 1125899906842624) (A : Nat → Prop) : ∀ (N : Nat) (f : For), f.size < N → ∀ (v : Value), Fine f → f.size ≤ 256 → SzV w0 A v f → Plays w0 wb fr till v f := by
  intro N
  induction N with
  | zero => intro f h; omega
  | succ N IH =>
    intro f hN v hfine hsize hsz a w X ha0 ha1 hW
    obtain ⟨ao, c, rfl⟩ := szv_open hsz
    have HSEC := Lib.hid hsz
    have HFINE := Lib.hid hfine
    have IH' := Lib.hid (fun (k : For) (hk : k.size < f.size) => IH k (by omega))
    have HSIZE := Lib.hid hsize
    have HW := Lib.hid hW
    have hl256 : f.len ≤ 256 := Nat.le_trans (len_size f) hsize
    obtain ⟨n, hn⟩ : ∃ n, f.len = n := ⟨_, rfl⟩
    have HN := Lib.hid hn
    obtain ⟨DF, hDF⟩ : ∃ DF, dur f = DF := ⟨_, rfl⟩
    have HDF := Lib.hid hDF
    rw [hn] at hl256 ⊢
    rw [hDF] at ha1
    clear hsz hn hfine hsize hDF IH hW
    go_enter Try.func23, Try.ntmps23
    go_wp2_with fail
    go_loopw [2, 10] (fun v2 v10 wr => ∃ (i : Nat) (b : Int) (Z : List Ev), i ≤ n ∧ v2 = .int .i64 b ∧ v10 = .int .i64 (i : Int) ∧ 0 ≤ b ∧ Hid (b + dur (f.drop i) = a + DF) ∧ Hid (Z ++ win fr till (playF (f.drop i) b) = X ++ win fr till (playF f a)) ∧ Hid (WinS w0 wr wb fr till Z) ∧ Hid (Gr w0.heap.size [69, 60] w wr)) (fun _ v10 _ => n - (intOf v10).toNat)
    case atStart => exact ⟨0, a, X, Nat.zero_le _, rfl, rfl, ha0, by unfold Hid; rw [← HDF.out]; rfl, rfl, HW.out, Gr.refl _ _ _⟩
    case round =>
      obtain ⟨i, b, Z, hi1, rfl, rfl, hb0, HB, HRES, HWR, HGR⟩ := hrel
      by_cases hie : i = n
      · have HF : Hid (WinS w0 wr wb fr till (X ++ win fr till (playF f a))) := by
          have h := HRES.out
          unfold Hid at h ⊢
          rw [hie, ← HN.out, For.drop_end] at h
          rw [← h]
          show WinS w0 wr wb fr till (Z ++ [])
          rw [List.append_nil]
          exact HWR.out
        subst hie
        go_wp2_with fail
        go_end0
        exact ⟨rfl, HF.out, HGR.out⟩
      have hin : i < n := by omega
      have hin2 : (i : Int) < (n : Int) := by omega
      obtain ⟨t, l, evs, k, r, hd⟩ := For.drop_cons (f := f) (n := i) (by rw [HN.out]; exact hin)
      obtain ⟨sbk, so, ve, ⟨sa, sn, sc⟩, vk, rfl, hA, hc, hev, hks⟩ := szv_at HSEC.out hd
      have hgr := HWR.out.gr
      have hfd := fine_drop i f HFINE.out
      rw [hd] at hfd
      obtain ⟨⟨ht0, ht1⟩, ⟨hl0, hl1⟩, hwr, hlate, hfk, hfr, ⟨dk0, dk1⟩, dr0⟩ := hfd
      have hb := HB.out
      unfold Hid at hb
      rw [hd] at hb
      simp only [dur] at hb
      have HK := Lib.hid (For.size_kids hd)
      have hm0 : 0 ≤ t * (l + dur k) := Int.mul_nonneg ht0 (by omega)
      have HSKIP := Lib.hid (fun h => sec_skip (evs := evs) ht0 hwr hlate hl0 hfk b fr till h)
      have HSTEP : Hid ((Z ++ win fr till (secF t l evs k b)) ++ win fr till (playF (f.drop (i + 1)) (b + t * (l + dur k))) = X ++ win fr till (playF f a)) := by
        have h := HRES.out
        unfold Hid at h ⊢
        rw [hd, cons_step] at h
        rw [For.drop_succ i f hd]
        exact h
      have HB2 : Hid (b + t * (l + dur k) + dur (f.drop (i + 1)) = a + DF) := by
        unfold Hid
        rw [For.drop_succ i f hd]
        omega
      have HTC := Lib.hid (fun (w' : World) (hpos : 0 < l + dur k) (hb1 : b + t * (l + dur k) ≤ 1125899906842624) (hfa : fr < b + t * (l + dur k)) (hP : Plays w0 wb fr till vk k) (hW' : WinS w0 w' wb fr till Z) => times_calls t l evs k ve (sa, sn, sc) vk A w0 w' wb fr till b Z ht0 ht1 hl0 hl1 hwr hlate hfk hpos hb0 hb1 hf0 hf1 ht2 hfa hev hP hW')
      have HKP : Hid (Plays w0 wb fr till vk k) := IH'.out k HK.out vk hfk (by have := HK.out; have := HSIZE.out; unfold Hid at *; omega) hks
      have HBEH : Hid (till ≤ b → Z = X ++ win fr till (playF f a)) := by
        intro h
        have h2 := HRES.out
        unfold Hid at h2
        rw [rest_behind (fine_drop i f HFINE.out) h, List.append_nil] at h2
        exact h2
      have c0 : wr.cell? ⟨sbk, so + i * 8, none⟩ = some (.int .i64 t) := grown_cell hgr (hc 0 _ rfl) (by simp)
      have c1 : wr.cell? ⟨sbk, so + i * 8 + 1, none⟩ = some (.int .i64 l) := grown_cell hgr (hc 1 _ rfl) (by simp)
      have c2 : wr.cell? ⟨sbk, so + i * 8 + 2, none⟩ = some ve := grown_cell hgr (hc 2 _ rfl) (by simp)
      have c3 : wr.cell? ⟨sbk, so + i * 8 + 3, none⟩ = some (.slice sa sn sc) := grown_cell hgr (hc 3 _ rfl) (by simp)
      have c4 : wr.cell? ⟨sbk, so + i * 8 + 4, none⟩ = some (.int .i64 (l + dur k)) := grown_cell hgr (hc 4 _ rfl) (by simp)
      have c5 : wr.cell? ⟨sbk, so + i * 8 + 5, none⟩ = some (.int .i64 (t * (l + dur k))) := grown_cell hgr (hc 5 _ rfl) (by simp)
      have c6 : wr.cell? ⟨sbk, so + i * 8 + 6, none⟩ = some (.bool (someS evs k)) := grown_cell hgr (hc 6 _ rfl) (by simp)
      have c7 : wr.cell? ⟨sbk, so + i * 8 + 7, none⟩ = some vk := grown_cell hgr (hc 7 _ rfl) (by simp)
      unfold szC at HTC
      obtain ⟨ae, ce, rfl⟩ := evs_len hev.evs
      obtain ⟨ne, hne⟩ : ∃ ne, evs.length = ne := ⟨_, rfl⟩
      obtain ⟨ak, ck, rfl⟩ := szv_open hks
      obtain ⟨nk, hnk⟩ : ∃ nk, k.len = nk := ⟨_, rfl⟩
      rw [hne] at c2 HTC
      rw [hnk] at c7 HTC HKP
      obtain ⟨O, hO⟩ : ∃ O, l + dur k = O := ⟨_, rfl⟩
      rw [hO] at c4 c5 HSKIP HSTEP HB2 HTC hm0 hb
      obtain ⟨Y, hY⟩ : ∃ Y, t * O = Y := ⟨_, rfl⟩
      rw [hY] at c5 HSKIP HSTEP HB2 HTC hm0 hb
      obtain ⟨sm, hsm⟩ : ∃ sm, someS evs k = sm := ⟨_, rfl⟩
      rw [hsm] at c6 HSKIP HTC
      have hbY : b + Y ≤ 1125899906842624 := by omega
      have hOb : 0 ≤ O := by omega
      have hO2 : O ≤ 1125899906842624 + 65536 := by unfold total at dk1; omega
      clear hd hc hev hks hgr hfk hfr hwr hlate hne hnk hO hY hsm dk0 dk1 dr0 hb hA HB
      obtain ⟨sb, hsb⟩ : ∃ sb, wr.heap.size = sb := ⟨_, rfl⟩
      have HSB := Lib.hid hsb
      clear hsb
      go_upto_region 3 with fail
      simp only [HSB.out]
      obtain ⟨wx, hwx⟩ : ∃ wx, wr.alloc (.cells #[.int .i64 t, .int .i64 l, .slice ae ne ce, .slice sa sn sc, .int .i64 O, .int .i64 Y, .bool sm, .slice ak nk ck] 74) = wx := ⟨_, rfl⟩
      have HGRX : Hid (wr.grownBy wx none) := by unfold Hid; rw [← hwx]; exact grown_alloc (grown_refl _ _) _
      have HRS : Hid (wx.heap[sb]? = some (.cells #[.int .i64 t, .int .i64 l, .slice ae ne ce, .slice sa sn sc, .int .i64 O, .int .i64 Y, .bool sm, .slice ak nk ck] 74 (0, 0))) := by unfold Hid; rw [← hwx, ← HSB.out]; exact heap_alloc_new _ _
      simp only [hwx]
      clear hwx c0 c1 c2 c3 c4 c5 c6 c7
      have HWX : Hid (WinS w0 wx wb fr till Z) := HWR.out.kept HGRX.out
      have HGX : Hid (Gr w0.heap.size [69, 60] w wx) := HGR.out.trans (Gr.of_none HGRX.out)
      obtain ⟨ax2, cx2, hr2, _, _⟩ := HWX.out.ex
      have HWB : Hid (wx.heap[wb]? = some (.cells #[.int .i64 fr, .int .i64 till, .slice ax2 (Z.take 4096).length cx2, .bool (decide (4096 < Z.length))] 69 (0, 0))) := hr2
      clear hr2
      obtain ⟨zn, hzn⟩ : ∃ zn, (Z.take 4096).length = zn := ⟨_, rfl⟩
      obtain ⟨zf, hzf⟩ : ∃ zf, decide (4096 < Z.length) = zf := ⟨_, rfl⟩
      rw [hzn, hzf] at HWB
      have HZF := Lib.hid hzf
      clear hzn hzf
      have q0 := cell_of HWB.out 0
      have q1 := cell_of HWB.out 1
      have q3 := cell_of HWB.out 3
      by_cases z1 : till ≤ b
      · have HF : Hid (WinS w0 wx wb fr till (X ++ win fr till (playF f a))) := by
          unfold Hid
          rw [← HBEH.out z1]
          exact HWX.out
        go_wp2_with fail
        refine bodyPost_ret (results_none rfl _ _ _) rfl ?_
        exact ⟨rfl, HF.out, HGX.out⟩
      have z1' : b < till := by omega
      cases zf
      rotate_left
      · have HF : Hid (WinS w0 wx wb fr till (X ++ win fr till (playF f a))) := by
          unfold Hid
          rw [← HRES.out]
          exact HWX.out.full (of_decide_eq_true HZF.out) _
        go_wp2_with fail
        refine bodyPost_ret (results_none rfl _ _ _) rfl ?_
        exact ⟨rfl, HF.out, HGX.out⟩
      clear z1 HBEH HRES HZF
      have s0 := cell_of HRS.out 0
      have s1 := cell_of HRS.out 1
      have s2 := cell_of HRS.out 2
      have s3 := cell_of HRS.out 3
      have s4 := cell_of HRS.out 4
      have s5 := cell_of HRS.out 5
      have s6 := cell_of HRS.out 6
      have s7 := cell_of HRS.out 7
      have ebY : IntKind.i64.wrap (b + Y) = b + Y := IntWalk.i64_in _ (by omega)
      have eii : IntKind.i64.wrap ((i : Int) + 1) = (i : Int) + 1 := IntWalk.i64_in _ (by omega)
      go_upto_region 4 with fail
      by_cases y1 : b + Y ≤ fr
      · have HRES2 : Hid (Z ++ win fr till (playF (f.drop (i + 1)) (b + Y)) = X ++ win fr till (playF f a)) := by
          have h := HSTEP.out
          unfold Hid at h ⊢
          rw [HSKIP.out (.inl y1), List.append_nil] at h
          exact h
        have d1 : decide (fr < b + Y) = false := decide_eq_false (by omega)
        go_quiet (fail)
        have HGQ : Hid (wx.grownBy (wx.drewN nq) none) := grown_drewN (grown_refl _ _) _
        obtain ⟨wq, hwq⟩ : ∃ wq, wx.drewN nq = wq := ⟨_, rfl⟩
        rw [hwq] at HGQ
        simp only [hwq]
        clear hwq
        have HRSQ : Hid (wq.heap[sb]? = some (.cells #[.int .i64 t, .int .i64 l, .slice ae ne ce, .slice sa sn sc, .int .i64 O, .int .i64 Y, .bool sm, .slice ak nk ck] 74 (0, 0))) := row_kept HGQ.out HRS.out (by simp)
        clear s0 s1 s2 s3 s4 s5 s6 s7 q0 q1 q3
        have p5 := cell_of HRSQ.out 5
        go_wp2_with fail
        refine ⟨?_, by simp [intOf]; omega⟩
        first
          | exact ⟨i + 1, b + Y, _, by omega, rfl, rfl, by omega, HB2.out, HRES2.out, HWX.out.kept HGQ.out, HGX.out.trans (Gr.of_none HGQ.out)⟩
          | (repeat apply Exists.intro
             refine ⟨?_, rfl⟩
             exact ⟨i + 1, b + Y, _, by omega, rfl, rfl, by omega, HB2.out, HRES2.out, HWX.out.kept HGQ.out, HGX.out.trans (Gr.of_none HGQ.out)⟩)

      have y1' : fr < b + Y := by omega
      have d1 : decide (fr < b + Y) = true := decide_eq_true y1'
      clear y1
      by_cases y2 : O ≤ 0
      · have HRES2 : Hid (Z ++ win fr till (playF (f.drop (i + 1)) (b + Y)) = X ++ win fr till (playF f a)) := by
          have h := HSTEP.out
          unfold Hid at h ⊢
          rw [HSKIP.out (.inr (.inl y2)), List.append_nil] at h
          exact h
        have d2 : decide ((0 : Int) < O) = false := decide_eq_false (by omega)
        go_quiet (fail)
        have HGQ : Hid (wx.grownBy (wx.drewN nq) none) := grown_drewN (grown_refl _ _) _
        obtain ⟨wq, hwq⟩ : ∃ wq, wx.drewN nq = wq := ⟨_, rfl⟩
        rw [hwq] at HGQ
        simp only [hwq]
        clear hwq
        have HRSQ : Hid (wq.heap[sb]? = some (.cells #[.int .i64 t, .int .i64 l, .slice ae ne ce, .slice sa sn sc, .int .i64 O, .int .i64 Y, .bool sm, .slice ak nk ck] 74 (0, 0))) := row_kept HGQ.out HRS.out (by simp)
        clear s0 s1 s2 s3 s4 s5 s6 s7 q0 q1 q3
        have p5 := cell_of HRSQ.out 5
        go_wp2_with fail
        refine ⟨?_, by simp [intOf]; omega⟩
        first
          | exact ⟨i + 1, b + Y, _, by omega, rfl, rfl, by omega, HB2.out, HRES2.out, HWX.out.kept HGQ.out, HGX.out.trans (Gr.of_none HGQ.out)⟩
          | (repeat apply Exists.intro
             refine ⟨?_, rfl⟩
             exact ⟨i + 1, b + Y, _, by omega, rfl, rfl, by omega, HB2.out, HRES2.out, HWX.out.kept HGQ.out, HGX.out.trans (Gr.of_none HGQ.out)⟩)

      have y2' : 0 < O := by omega
      have d2 : decide ((0 : Int) < O) = true := decide_eq_true y2'
      clear y2
      cases sm
      · have HRES2 : Hid (Z ++ win fr till (playF (f.drop (i + 1)) (b + Y)) = X ++ win fr till (playF f a)) := by
          have h := HSTEP.out
          unfold Hid at h ⊢
          rw [HSKIP.out (.inr (.inr rfl)), List.append_nil] at h
          exact h
        go_quiet (fail)
        have HGQ : Hid (wx.grownBy (wx.drewN nq) none) := grown_drewN (grown_refl _ _) _
        obtain ⟨wq, hwq⟩ : ∃ wq, wx.drewN nq = wq := ⟨_, rfl⟩
        rw [hwq] at HGQ
        simp only [hwq]
        clear hwq
        have HRSQ : Hid (wq.heap[sb]? = some (.cells #[.int .i64 t, .int .i64 l, .slice ae ne ce, .slice sa sn sc, .int .i64 O, .int .i64 Y, .bool false, .slice ak nk ck] 74 (0, 0))) := row_kept HGQ.out HRS.out (by simp)
        clear s0 s1 s2 s3 s4 s5 s6 s7 q0 q1 q3
        have p5 := cell_of HRSQ.out 5
        go_wp2_with fail
        refine ⟨?_, by simp [intOf]; omega⟩
        first
          | exact ⟨i + 1, b + Y, _, by omega, rfl, rfl, by omega, HB2.out, HRES2.out, HWX.out.kept HGQ.out, HGX.out.trans (Gr.of_none HGQ.out)⟩
          | (repeat apply Exists.intro
             refine ⟨?_, rfl⟩
             exact ⟨i + 1, b + Y, _, by omega, rfl, rfl, by omega, HB2.out, HRES2.out, HWX.out.kept HGQ.out, HGX.out.trans (Gr.of_none HGQ.out)⟩)

      go_quiet (fail)
      have HGQ : Hid (wx.grownBy (wx.drewN nq) none) := grown_drewN (grown_refl _ _) _
      obtain ⟨wq, hwq⟩ : ∃ wq, wx.drewN nq = wq := ⟨_, rfl⟩
      rw [hwq] at HGQ
      simp only [hwq]
      clear hwq d1 d2 s0 s1 s2 s3 s4 s5 s6 s7 q0 q1 q3
      have HRSQ : Hid (wq.heap[sb]? = some (.cells #[.int .i64 t, .int .i64 l, .slice ae ne ce, .slice sa sn sc, .int .i64 O, .int .i64 Y, .bool true, .slice ak nk ck] 74 (0, 0))) := row_kept HGQ.out HRS.out (by simp)
      have s0 := cell_of HRSQ.out 0
      have s1 := cell_of HRSQ.out 1
      have s2 := cell_of HRSQ.out 2
      have s3 := cell_of HRSQ.out 3
      have s4 := cell_of HRSQ.out 4
      have s5 := cell_of HRSQ.out 5
      have s6 := cell_of HRSQ.out 6
      have s7 := cell_of HRSQ.out 7
      have HWQ : Hid (WinS w0 wq wb fr till Z) := HWX.out.kept HGQ.out
      have HGXQ : Hid (Gr w0.heap.size [69, 60] w wq) := HGX.out.trans (Gr.of_none HGQ.out)
      have TC := Lib.hid (HTC.out wq y2' hbY y1' HKP.out HWQ.out)
      go_upto_region 6 with (go_at_call 30; refine (TC.out).mono ?_; rintro e1 w1 ⟨rfl, hw1, hg1⟩)
      obtain ⟨wy, rfl⟩ : ∃ wy : World, wy = w1 := ⟨_, rfl⟩
      have HRS1 : Hid (wy.heap[sb]? = some (.cells #[.int .i64 t, .int .i64 l, .slice ae ne ce, .slice sa sn sc, .int .i64 O, .int .i64 Y, .bool true, .slice ak nk ck] 74 (0, 0))) := hg1.out.keep HRSQ.out (by simp)
      have HG1 : Hid (Gr w0.heap.size [69, 60] w wy) := HGXQ.out.trans hg1.out
      clear s0 s1 s2 s3 s4 s5 s6 s7
      have p5 := cell_of HRS1.out 5
      go_wp2_with fail
      refine ⟨?_, by simp [intOf]; omega⟩
      first
        | exact ⟨i + 1, b + Y, _, by omega, rfl, rfl, by omega, HB2.out, HSTEP.out, hw1.out, HG1.out⟩
        | (repeat apply Exists.intro
           refine ⟨?_, rfl⟩
           exact ⟨i + 1, b + Y, _, by omega, rfl, rfl, by omega, HB2.out, HSTEP.out, hw1.out, HG1.out⟩)

end Go.Proofs.Ythmcicmebaibgaa.TPlay
