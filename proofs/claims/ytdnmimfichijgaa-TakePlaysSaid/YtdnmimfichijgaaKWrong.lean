/- Wrong of a line: the walk. -/
import Derived.Test.YtdnmimfichijgaaKLess
namespace Go.Proofs.Ytdnmimfichijgaa.KWrong
open Go Go.RowKit Go.Proofs.Ytdnmimfichijgaa.KMod Go.Proofs.Ytdnmimfichijgaa.KRead Go.Proofs.Ytdnmimfichijgaa.KLess Go.Proofs.Ytdnmimfichijgaa.Hp Go.Proofs.Ytdnmimfichijgaa.Rd Go.Proofs.Ytdnmimfichijgaa.Opn
set_option linter.unusedVariables false
set_option linter.unusedSimpArgs false

/-- The one ahead of the k-th. -/
def prevT (ts : List Tone) (k : Nat) : Option Tone := if k = 0 then none else ts[k - 1]?
theorem prevT_succ {ts : List Tone} {k : Nat} {t : Tone} (h : ts[k]? = some t) : prevT ts (k + 1) = some t := by
  unfold prevT
  rw [if_neg (by omega), Nat.add_sub_cancel]
  exact h

set_option maxHeartbeats 6000000 in
set_option maxRecDepth 100000 in
theorem wrong_calls (ao : Option Addr) (c : Nat) (ts : List Tone) (w : World) (hts : Tos w (.slice ao ts.length c) ts) (hbig : ts.length < 9223372036854775807) :
    Calls Try.prog 30 #[.slice ao ts.length c] w fun e w' => e = .returned (.int .i64 (wrongT ts)) ∧ Hid (w.grownBy w' none) := by
  obtain ⟨n, hn⟩ : ∃ n, ts.length = n := ⟨_, rfl⟩
  have HN := Lib.hid hn
  have HT := Lib.hid hts
  have hb2 : (n : Int) < 9223372036854775807 := by omega
  rw [hn] at HT ⊢
  obtain ⟨R, hR⟩ : ∃ R, wrongT ts = R := ⟨_, rfl⟩
  have HR := Lib.hid hR
  rw [hR]
  clear hts hbig hn hR
  by_cases hlen : 1024 < n
  · have h1 : (1024 : Int) < (n : Int) := by omega
    have HF : Hid (R = 5) := by unfold Hid; rw [← HR.out]; unfold wrongT; rw [if_pos (by rw [HN.out]; exact hlen)]
    clear hlen
    go_enter Try.func30, Try.ntmps30
    go_wp2_with fail
    go_ret
    exact ⟨by rw [HF.out]; rfl, grown_refl _ _⟩
  have h1 : ¬ (1024 : Int) < (n : Int) := by omega
  have HS : Hid (R = wrongTL (prevT ts 0) (ts.drop 0)) := by unfold Hid; rw [← HR.out]; unfold wrongT; rw [if_neg (by rw [HN.out]; exact hlen)]; rfl
  go_enter Try.func30, Try.ntmps30
  go_wp2_with fail
  go_loopw [10] (fun v10 wr => ∃ k : Nat, k ≤ n ∧ v10 = .int .i64 (k : Int) ∧ Hid (R = wrongTL (prevT ts k) (ts.drop k)) ∧ Hid (∀ x ∈ ts.take k, okT x) ∧ Hid (w.grownBy wr none)) (fun v10 _ => n - (intOf v10).toNat)
  case atStart => exact ⟨0, by omega, rfl, HS.out, (fun x hx => by simp at hx), grown_refl _ _⟩
  case round =>
    obtain ⟨k, hk, rfl, HRK, HOK, HG⟩ := hrel
    by_cases hkn : k = n
    · have HZ : Hid (R = 0) := by
        have h := HRK.out
        rw [hkn, List.drop_eq_nil_of_le (by rw [HN.out]; exact Nat.le_refl _)] at h
        exact h.trans (by unfold wrongTL; rfl)
      have hk2 := hkn.symm
      subst hk2
      clear hkn
      go_wp2_with fail
      go_ret
      exact ⟨by rw [HZ.out]; rfl, HG.out⟩
    have hkl : k < n := by omega
    have hkl2 : (k : Int) < (n : Int) := by omega
    obtain ⟨t, ht⟩ : ∃ t, ts[k]? = some t := ⟨ts[k]'(by have := HN.out; unfold Hid at this; omega), List.getElem?_eq_getElem _⟩
    obtain ⟨b, o, rfl, _, hrg⟩ := sla_at HT.out ht
    have HTK := Lib.hid ht
    have HPV := Lib.hid (prevT_succ ht)
    have HST : Hid (wrongTL (prevT ts k) (ts.drop k) = if ¬ rangeP t then 3 else if rightB t = false then 2 else if ((prevT ts k).elim false fun q => lessB t q) = true then 8 else wrongTL (some t) (ts.drop (k + 1))) := by
      unfold Hid
      obtain ⟨hi, he⟩ := List.getElem?_eq_some_iff.1 ht
      rw [List.drop_eq_getElem_cons hi, he]
      rfl
    obtain ⟨ta, tl, tt, tal, to_⟩ := t
    have e0 : wr.cell? ⟨b, o + k * 5, none⟩ = some (.int .i64 ta) := grown_cell HG.out (hrg 0 _ rfl) (by simp)
    have e1 : wr.cell? ⟨b, o + k * 5 + 1, none⟩ = some (.int .i64 tl) := grown_cell HG.out (hrg 1 _ rfl) (by simp)
    have e2 : wr.cell? ⟨b, o + k * 5 + 2, none⟩ = some (.int .i64 tt) := grown_cell HG.out (hrg 2 _ rfl) (by simp)
    have e3 : wr.cell? ⟨b, o + k * 5 + 3, none⟩ = some (.int .i64 tal) := grown_cell HG.out (hrg 3 _ rfl) (by simp)
    have e4 : wr.cell? ⟨b, o + k * 5 + 4, none⟩ = some (.int .i64 to_) := grown_cell HG.out (hrg 4 _ rfl) (by simp)
    clear hrg ht
    obtain ⟨sb, hsb⟩ : ∃ sb, wr.heap.size = sb := ⟨_, rfl⟩
    have HSB := Lib.hid hsb
    clear hsb
    go_upto_region 6 with fail
    simp only [HSB.out]
    obtain ⟨wx, hwx⟩ : ∃ wx, wr.alloc (.cells #[.int .i64 ta, .int .i64 tl, .int .i64 tt, .int .i64 tal, .int .i64 to_] 38) = wx := ⟨_, rfl⟩
    have HGX : Hid (wr.grownBy wx none) := by unfold Hid; rw [← hwx]; exact grown_alloc (grown_refl _ _) _
    have HRX : Hid (wx.heap[sb]? = some (.cells #[.int .i64 ta, .int .i64 tl, .int .i64 tt, .int .i64 tal, .int .i64 to_] 38 (0, 0))) := by unfold Hid; rw [← hwx, ← HSB.out]; exact heap_alloc_new _ _
    simp only [hwx]
    clear hwx e0 e1 e2 e3 e4
    have HGW : Hid (w.grownBy wx none) := grown_trans HG.out HGX.out
    have d0 := cell_of HRX.out 0
    have d1 := cell_of HRX.out 1
    by_cases hr : rangeP ⟨ta, tl, tt, tal, to_⟩
    rotate_left
    · have HF : Hid (R = 3) := by unfold Hid; rw [HRK.out, HST.out, if_pos hr]
      have hr2 : ta < 0 ∨ (0 ≤ ta ∧ tl < 1) ∨ (0 ≤ ta ∧ 1 ≤ tl ∧ 1048576 < ta) ∨ (0 ≤ ta ∧ 1 ≤ tl ∧ ta ≤ 1048576 ∧ 1048576 < tl) := by unfold rangeP at hr; simp only at hr; omega
      clear hr
      rcases hr2 with h | ⟨h, h2⟩ | ⟨h, h2, h3⟩ | ⟨h, h2, h3, h4⟩
      all_goals
        go_wp2_with fail
        go_ret
        exact ⟨by rw [HF.out]; rfl, HGW.out⟩
    have hr9 : 0 ≤ ta ∧ 1 ≤ tl ∧ ta ≤ 1048576 ∧ tl ≤ 1048576 := hr
    obtain ⟨q0, q1, q2, q3⟩ := hr9
    go_cut [32] from 15 to 32 (fun cx wz => cx = .bool false ∧ wz = wx)
    case first =>
      go_wp2_with fail
      go_meet
      refine ⟨?_, rfl⟩
      simp
      omega
    obtain ⟨rfl, hwc⟩ := hcut
    subst hwc
    obtain ⟨wx, rfl⟩ : ∃ wx : World, wx = wc := ⟨_, rfl⟩
    clear d0 d1
    have d2 := cell_of HRX.out 2
    have d3 := cell_of HRX.out 3
    have d4 := cell_of HRX.out 4
    have RC := Lib.hid (right_calls ⟨ta, tl, tt, tal, to_⟩ wx)
    cases hrb : rightB ⟨ta, tl, tt, tal, to_⟩
    · have HF : Hid (R = 2) := by unfold Hid; rw [HRK.out, HST.out, if_neg (fun h => h hr), if_pos hrb]
      rw [hrb] at RC
      clear hrb hr
      go_wp2_with (go_at_call 33; refine (RC.out).mono ?_; rintro ez w9 ⟨rfl, hg9⟩)
      go_ret
      exact ⟨by rw [HF.out]; rfl, grown_trans HGW.out hg9.out⟩
    have htok : okT ⟨ta, tl, tt, tal, to_⟩ := ⟨hr, hrb⟩
    have HTOK := Lib.hid htok
    have HOK2 : Hid (∀ x ∈ ts.take (k + 1), okT x) := by
      intro x hx
      rw [List.take_add_one, HTK.out] at hx
      rcases List.mem_append.1 hx with h | h
      · exact HOK.out x h
      · simp at h; subst h; exact htok
    have HST2 : Hid (R = if ((prevT ts k).elim false fun q => lessB ⟨ta, tl, tt, tal, to_⟩ q) = true then 8 else wrongTL (prevT ts (k + 1)) (ts.drop (k + 1))) := by
      unfold Hid
      rw [HRK.out, HST.out, if_neg (fun h => h hr), if_neg (by rw [hrb]; simp), HPV.out]
    rw [hrb] at RC
    clear hrb HST hr
    go_upto_region 10 with (go_at_call 33; refine (RC.out).mono ?_; rintro ez w9 ⟨rfl, hg9⟩)
    obtain ⟨wz, rfl⟩ : ∃ wz : World, wz = w9 := ⟨_, rfl⟩
    have HGZ : Hid (w.grownBy wz none) := grown_trans HGW.out hg9.out
    have HRZ : Hid (wz.heap[sb]? = some (.cells #[.int .i64 ta, .int .i64 tl, .int .i64 tt, .int .i64 tal, .int .i64 to_] 38 (0, 0))) := row_kept hg9.out HRX.out (by simp)
    clear d2 d3 d4 htok
    by_cases hk0 : k = 0
    · have HN : Hid (R = wrongTL (prevT ts (k + 1)) (ts.drop (k + 1))) := by
        unfold Hid
        rw [HST2.out, hk0]
        rfl
      have hkb : decide ((0 : Int) < (k : Int)) = false := decide_eq_false (by omega)
      have hkc : decide (0 < k) = false := decide_eq_false (by omega)
      have HK0 := Lib.hid hk0
      have hkz : (k : Int) ≤ 0 := by omega
      clear hk0
      go_quiet (fail)
      clear hkb hkc
      go_wp2_with fail
      refine ⟨?_, by simp [intOf]; omega⟩
      first
        | exact ⟨k + 1, by omega, rfl, HN.out, HOK2.out, grown_drewN HGZ.out _⟩
        | (repeat apply Exists.intro
           refine ⟨?_, rfl⟩
           exact ⟨k + 1, by omega, rfl, HN.out, HOK2.out, grown_drewN HGZ.out _⟩)
    obtain ⟨p, hp⟩ : ∃ p, ts[k - 1]? = some p := ⟨ts[k - 1]'(by have := HN.out; unfold Hid at this; omega), List.getElem?_eq_getElem _⟩
    obtain ⟨b', o', hbo, _, hrg⟩ := sla_at HT.out hp
    simp only [Option.some.injEq, Addr.mk.injEq, and_true] at hbo
    obtain ⟨rfl, rfl⟩ := hbo
    have hpok : okT p := by
      have hmem : p ∈ ts.take k := by
        rw [List.mem_iff_getElem?]
        exact ⟨k - 1, by rw [List.getElem?_take, if_pos (by omega)]; exact hp⟩
      exact HOK.out p hmem
    have htok := HTOK.out
    have HPE : Hid (prevT ts k = some p) := by unfold Hid prevT; rw [if_neg hk0]; exact hp
    obtain ⟨pa, pl, pt, pal, po⟩ := p
    obtain ⟨j, hj⟩ : ∃ j, k - 1 = j := ⟨_, rfl⟩
    rw [hj] at hrg
    have f0 : wz.cell? ⟨b, o + j * 5, none⟩ = some (.int .i64 pa) := grown_cell HGZ.out (hrg 0 _ rfl) (by simp)
    have f1 : wz.cell? ⟨b, o + j * 5 + 1, none⟩ = some (.int .i64 pl) := grown_cell HGZ.out (hrg 1 _ rfl) (by simp)
    have f2 : wz.cell? ⟨b, o + j * 5 + 2, none⟩ = some (.int .i64 pt) := grown_cell HGZ.out (hrg 2 _ rfl) (by simp)
    have f3 : wz.cell? ⟨b, o + j * 5 + 3, none⟩ = some (.int .i64 pal) := grown_cell HGZ.out (hrg 3 _ rfl) (by simp)
    have f4 : wz.cell? ⟨b, o + j * 5 + 4, none⟩ = some (.int .i64 po) := grown_cell HGZ.out (hrg 4 _ rfl) (by simp)
    have OC := Lib.hid (fun w' => (order_calls ⟨pa, pl, pt, pal, po⟩ ⟨ta, tl, tt, tal, to_⟩ w' hpok htok))
    have hkb : decide ((0 : Int) < (k : Int)) = true := decide_eq_true (by omega)
    have hkc : decide (0 < k) = true := decide_eq_true (by omega)
    have ei : IntKind.i64.wrap ((k : Int) - 1) = (j : Int) := by rw [IntWalk.i64_in _ (by omega)]; omega
    have hjn : (j : Int) < (n : Int) := by omega
    have hkp : (0 : Int) < (k : Int) := by omega
    clear hrg hp hj hk0 hpok htok
    go_wp2_with fail
    have hne := Mixed.Later.nonempty wz
    have k0 : ∀ n : Mixed.Later wz, n.w.cell? ⟨sb, 0, none⟩ = some (.int .i64 ta) := Mixed.Later.cell (cell_of HRZ.out 0)
    have k1 : ∀ n : Mixed.Later wz, n.w.cell? ⟨sb, 1, none⟩ = some (.int .i64 tl) := Mixed.Later.cell (cell_of HRZ.out 1)
    have k2 : ∀ n : Mixed.Later wz, n.w.cell? ⟨sb, 2, none⟩ = some (.int .i64 tt) := Mixed.Later.cell (cell_of HRZ.out 2)
    have k3 : ∀ n : Mixed.Later wz, n.w.cell? ⟨sb, 3, none⟩ = some (.int .i64 tal) := Mixed.Later.cell (cell_of HRZ.out 3)
    have k4 : ∀ n : Mixed.Later wz, n.w.cell? ⟨sb, 4, none⟩ = some (.int .i64 to_) := Mixed.Later.cell (cell_of HRZ.out 4)
    have g0 : ∀ n : Mixed.Later wz, n.w.cell? ⟨b, o + j * 5, none⟩ = some (.int .i64 pa) := Mixed.Later.cell f0
    have g1 : ∀ n : Mixed.Later wz, n.w.cell? ⟨b, o + j * 5 + 1, none⟩ = some (.int .i64 pl) := Mixed.Later.cell f1
    have g2 : ∀ n : Mixed.Later wz, n.w.cell? ⟨b, o + j * 5 + 2, none⟩ = some (.int .i64 pt) := Mixed.Later.cell f2
    have g3 : ∀ n : Mixed.Later wz, n.w.cell? ⟨b, o + j * 5 + 3, none⟩ = some (.int .i64 pal) := Mixed.Later.cell f3
    have g4 : ∀ n : Mixed.Later wz, n.w.cell? ⟨b, o + j * 5 + 4, none⟩ = some (.int .i64 po) := Mixed.Later.cell f4
    clear f0 f1 f2 f3 f4
    refine Mixed.wp_region_mixed (Mixed.late wz) (fun k => k == 9) (by kernel_rfl) (by kernel_rfl) (Mixed.late_of (grown_drew (grown_refl _ _))) ?_
    unfold Mixed.late
    refine Mixed.wpM_quiet rfl rfl rfl ?_; intro Kx hKx; go_big_quiet_op; go_big_quiet_on
    refine Mixed.wpM_quiet rfl rfl rfl ?_; intro Kx hKx; go_big_quiet_op; go_big_quiet_on
    refine Mixed.wpM_quiet rfl rfl rfl ?_; intro Kx hKx; go_big_quiet_op; go_big_quiet_on
    refine Mixed.wpM_quiet rfl rfl rfl ?_; intro Kx hKx; go_big_quiet_op; go_big_quiet_on
    refine Mixed.wpM_quiet rfl rfl rfl ?_; intro Kx hKx; go_big_quiet_op; go_big_quiet_on
    refine Mixed.wpM_quiet rfl rfl rfl ?_; intro Kx hKx; go_big_quiet_op; go_big_quiet_on
    refine Mixed.wpM_quiet rfl rfl rfl ?_; intro Kx hKx; go_big_quiet_op; go_big_quiet_on
    refine Mixed.wpM_quiet rfl rfl rfl ?_; intro Kx hKx; go_big_quiet_op; go_big_quiet_on
    refine Mixed.wpM_quiet rfl rfl rfl ?_; intro Kx hKx; go_big_quiet_op; go_big_quiet_on
    refine Mixed.wpM_call rfl rfl 34 _ (by go_simp; rfl) ?_
    refine (OC.out _).mono ?_
    rintro ez w5 ⟨rfl, hg5⟩
    have HG5 : Hid (wz.grownBy w5 none) := grown_trans (grown_drew (grown_refl _ _)) hg5.out
    refine ⟨_, rfl, ⟨⟨w5, HG5.out⟩, rfl⟩, ?_⟩
    go_simp
    refine Mixed.wpM_quiet rfl rfl rfl ?_; intro Kx hKx; go_big_quiet_op; go_big_quiet_on
    refine Mixed.wpM_quiet rfl rfl rfl ?_; intro Kx hKx; go_big_quiet_op; go_big_quiet_on
    refine Mixed.wpM_nil ?_
    intro nx hnx
    clear nx hnx k0 k1 k2 k3 k4 g0 g1 g2 g3 g4 hne ei hkb hkc hkp hg5
    have HGF : Hid (w.grownBy w5 none) := grown_trans HGZ.out HG5.out
    obtain ⟨LB, hLB⟩ : ∃ LB, lessB ⟨ta, tl, tt, tal, to_⟩ ⟨pa, pl, pt, pal, po⟩ = LB := ⟨_, rfl⟩
    have hob := ord_less ⟨pa, pl, pt, pal, po⟩ ⟨ta, tl, tt, tal, to_⟩
    rw [hLB] at hob
    simp only [hob]
    clear hob
    have HST3 : Hid (R = if LB = true then 8 else wrongTL (prevT ts (k + 1)) (ts.drop (k + 1))) := by
      unfold Hid
      rw [HST2.out, HPE.out, ← hLB]
      rfl
    clear hLB OC HRZ
    cases LB
    rotate_left
    · have HF : Hid (R = 8) := by unfold Hid; rw [HST3.out, if_pos rfl]
      go_wp2_with fail
      go_ret
      exact ⟨by rw [HF.out]; rfl, HGF.out⟩
    have HN : Hid (R = wrongTL (prevT ts (k + 1)) (ts.drop (k + 1))) := by unfold Hid; rw [HST3.out, if_neg (by simp)]
    go_wp2_with fail
    refine ⟨?_, by simp [intOf]; omega⟩
    first
      | exact ⟨k + 1, by omega, rfl, HN.out, HOK2.out, HGF.out⟩
      | (repeat apply Exists.intro
         refine ⟨?_, rfl⟩
         exact ⟨k + 1, by omega, rfl, HN.out, HOK2.out, HGF.out⟩)
end Go.Proofs.Ytdnmimfichijgaa.KWrong
