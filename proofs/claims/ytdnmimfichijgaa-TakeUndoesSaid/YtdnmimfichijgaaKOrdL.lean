/- TakeOrders: the law's walk. -/
import Derived.Test.YtdnmimfichijgaaKOrdP
import Derived.Test.YtdnmimfichijgaaKKeep
namespace Go.Proofs.Ytdnmimfichijgaa.KOrdL
open Go Go.RowKit Go.Proofs.Ytdnmimfichijgaa.KMod Go.Proofs.Ytdnmimfichijgaa.KTk Go.Proofs.Ytdnmimfichijgaa.KRead Go.Proofs.Ytdnmimfichijgaa.KCells Go.Proofs.Ytdnmimfichijgaa.KClone Go.Proofs.Ytdnmimfichijgaa.KTake Go.Proofs.Ytdnmimfichijgaa.KAlive Go.Proofs.Ytdnmimfichijgaa.KJ Go.Proofs.Ytdnmimfichijgaa.KUnp Go.Proofs.Ytdnmimfichijgaa.KKeep Go.Proofs.Ytdnmimfichijgaa.KOrd Go.Proofs.Ytdnmimfichijgaa.KOrdP Go.Proofs.Ytdnmimfichijgaa.KNext Go.Proofs.Ytdnmimfichijgaa.KRWrong Go.Proofs.Ytdnmimfichijgaa.Hp Go.Proofs.Ytdnmimfichijgaa.Rd Go.Proofs.Ytdnmimfichijgaa.Opn
set_option linter.unusedVariables false
set_option linter.unusedSimpArgs false

theorem ordR_len (ts : List Tone) : (ordR ts).length = ts.length := by
  have : ∀ (ts l : List Tone), (ts.foldl insR l).length = l.length + ts.length := by
    intro ts
    induction ts with
    | nil => intro l; rfl
    | cons t ts ih => intro l; rw [List.foldl_cons, ih, insR_len, List.length_cons]; omega
  unfold ordR
  rw [this]
  simp

set_option maxHeartbeats 4000000 in
set_option maxRecDepth 100000 in
theorem law (ao : Option Addr) (c : Nat) (ts : List Tone) (w : World) (hv : Tos w (.slice ao ts.length c) ts) :
    Calls Try.prog 6 #[.slice ao ts.length c] w fun e w' => e = .returned (.bool true) ∧ Hid (w.grownBy w' none) := by
  have AC := Lib.hid (alive_calls w)
  obtain ⟨n, hn⟩ : ∃ n, ts.length = n := ⟨_, rfl⟩
  have HN := Lib.hid hn
  have HV := Lib.hid hv
  rw [hn] at HV ⊢
  clear hv hn
  by_cases hbig : 100 < n
  · have h1 : (100 : Int) < (n : Int) := by omega
    clear hbig
    go_enter Try.func6, Try.ntmps6
    go_wp2_with (go_at_call 10; refine (AC.out).mono ?_; rintro ez w1 ⟨rfl, hg1⟩)
    go_ret
    exact ⟨rfl, hg1.out⟩
  have h1 : ¬ (100 : Int) < (n : Int) := by omega
  have h1b : decide ((100 : Int) < (n : Int)) = false := decide_eq_false h1
  obtain ⟨i3, hi3, hy0, hy1, hy2⟩ := info_parts info44
  obtain ⟨i4, hi4, hu0, hu1, hu2⟩ := info_parts info38
  obtain ⟨i0, hi0, hz0, hz1, hz2⟩ := info_parts info2
  go_enter Try.func6, Try.ntmps6
  go_upto_region 8 with (go_at_call 10; refine (AC.out).mono ?_; rintro ez w1 ⟨rfl, hg1⟩)
  have HG1 := Lib.hid hg1.out
  clear hg1 AC
  go_loopw [3, 4, 17] (fun v3 v4 v17 wr => ∃ (k q : Nat) (oa ob : Option Addr) (oc od : Nat), k ≤ n ∧ v3 = .slice oa k oc ∧ v4 = .slice ob q od ∧ v17 = .int .i64 (k : Int) ∧ Hid ((okL (ts.take k)).length = q) ∧ Hid (q ≤ k) ∧ Hid (wr.ownsRow w1.heap.size 44 11 (.slice oa k oc) k (flC stC ((ts.take k).map putS))) ∧ Hid (wr.ownsRow w1.heap.size 38 5 (.slice ob q od) q (flC Tone.cells (okL (ts.take k)))) ∧ Hid (∀ b, (Value.slice oa k oc).ownBlock = some b → (Value.slice ob q od).ownBlock ≠ some b) ∧ Hid (w1.grownBy wr none)) (fun _ _ v17 _ => n - (intOf v17).toNat)
  case atStart => exact ⟨0, 0, none, none, 0, 0, Nat.zero_le _, rfl, rfl, rfl, rfl, Nat.le_refl _, World.ownsRow_nil _ _ _ _, World.ownsRow_nil _ _ _ _, (fun b hb => by cases hb), grown_refl _ _⟩
  case round =>
    obtain ⟨k, q, oa, ob, oc, od, hk, rfl, rfl, rfl, HQ, HQK, HA, HB, HNE, HG⟩ := hrel
    obtain ⟨wz, hwz⟩ : ∃ wz : World, wz = wr := ⟨_, rfl⟩
    subst hwz
    by_cases hkn : k = n
    · have HTK : Hid (ts.take k = ts) := by unfold Hid; rw [hkn, List.take_of_length_le (by rw [HN.out]; exact Nat.le_refl _)]
      rw [HTK.out] at HQ HA HB
      have hk2 := hkn.symm
      subst hk2
      clear hkn
      have HXL : Hid ((ts.map putS).length = n) := by unfold Hid; rw [List.length_map, HN.out]
      obtain ⟨XS, hXS⟩ : ∃ XS, (runK (openT (List.replicate 1000 0)) ⟨List.replicate 1000 0, -1⟩ (ts.map putS)).1 = XS := ⟨_, rfl⟩
      have HXS := Lib.hid hXS
      have HXN : Hid (XS.length = n) := by unfold Hid; rw [← hXS, run_len, HXL.out]
      have HLAW : Hid (∀ y ∈ XS.getLast?, y.ts = ordR (okL ts)) := by unfold Hid; rw [← hXS]; exact orders ts (by rw [HN.out]; omega)
      have TC : Hid (∀ (w' : World) (g : Nat), Ils w' (.slice (some ⟨g, 0, none⟩) 1000 1000) (List.replicate 1000 0) → w'.ownsRow w1.heap.size 44 11 (.slice oa n oc) n (flC stC (ts.map putS)) → Calls Try.prog 7 #[.slice (some ⟨g, 0, none⟩) 1000 1000, .slice oa n oc] w' fun r w2 => ∃ la lc ao n2 c, r = .returned (.tuple #[.slice la n lc, .slice ao n2 c, .bool true]) ∧ Hid (TnsR w2 (.slice la n lc) XS) ∧ Hid (w'.grownBy w2 none)) := by
        intro w' g hi ho
        have hs : SlA 11 stC w' AnyB (.slice oa (ts.map putS).length oc) (ts.map putS) := by
          have h9 : w'.ownsRow w1.heap.size 44 11 (.slice oa n oc) (ts.map putS).length (flC stC (ts.map putS)) := by rw [HXL.out]; exact ho
          have h := sla_of_own st_len h9 AnyB (fun _ _ => trivial)
          rw [HXL.out]
          exact h
        have h := take_tns (some ⟨g, 0, none⟩) oa 1000 oc (List.replicate 1000 0) (ts.map putS) w' (by rw [List.length_replicate]; exact hi) hs (by rw [List.length_replicate]; omega) (by rw [HXL.out]; omega)
        rw [run_len, HXL.out, List.length_replicate] at h
        refine h.mono ?_
        rintro r w2 ⟨la, lc, ao, n2, c, rfl, h1, h2, h3⟩
        rw [HXS.out] at h1
        exact ⟨la, lc, ao, n2, c, rfl, h1, h3⟩
      clear hXS
      go_upto_region 17 with (first
        | (at_make; refine wpList_make_full _ rfl _ _ 22 rfl wz.heap.size 2 i0 (.int .i64 0) 1 Try.underlying22 hi0 hz0 hz1 _ _ _ _ 1000 rfl rfl (by rfl) (by rfl) (by rw [hz2]; omega) (by unfold maxLen; omega) (Nat.le_refl _) ?_; intro w3 hown3 hg3; have HI3 := Lib.hid (ils_noughts hown3); have HG3 := Lib.hid hg3; have HA3 := Lib.hid (own_kept HA.out hg3); clear hown3 hg3)
        | (go_at_call 7; refine (TC.out _ _ HI3.out HA3.out).mono ?_; rintro ez w4 ⟨la, lc, ao2, n2, c2, rfl, ht4, hg4⟩; have HT4 := Lib.hid ht4.out; have HG4 : Hid (wz.grownBy w4 none) := grown_trans HG3.out hg4.out; clear ht4 hg4))
      have HGW : Hid (w.grownBy w4 none) := grown_trans HG1.out (grown_trans HG.out HG4.out)
      by_cases hn0 : n = 0
      · subst hn0
        go_quiet (fail)
        go_wp2_with fail
        go_ret
        exact ⟨rfl, grown_drewN HGW.out _⟩
      obtain ⟨x, hx⟩ : ∃ x, XS[n - 1]? = some x := ⟨XS[n - 1]'(by rw [HXN.out]; omega), List.getElem?_eq_getElem _⟩
      have HXT : Hid (x.ts = ordR (okL ts)) := HLAW.out x (by rw [List.getLast?_eq_getElem?, HXN.out]; exact hx)
      obtain ⟨xb, xo, xa, xc, rfl, x0, x1, x2, hxt⟩ := tns_at HT4.out hx
      obtain ⟨OL, hOL⟩ : ∃ OL, ordR (okL ts) = OL := ⟨_, rfl⟩
      have HOL := Lib.hid hOL
      rw [HXT.out, hOL] at x2 hxt
      have HXX := Lib.hid hxt
      have hol : OL.length = q := by rw [← hOL, ordR_len, HQ.out]
      rw [hol] at x2
      have HOLL := Lib.hid hol
      obtain ⟨j, hj⟩ : ∃ j, n - 1 = j := ⟨_, rfl⟩
      rw [hj] at x2
      have hq100 : q ≤ 100 := by have := HQK.out; omega
      have OC : Hid (∀ w' : World, w4.grownBy w' none → Calls Try.prog 13 #[.slice ob q od] w' fun e w2 => ∃ oa oc, e = .returned (.slice oa q oc) ∧ Hid (Tos w2 (.slice oa q oc) OL) ∧ Hid (w'.grownBy w2 none)) := by
        intro w' hg
        have htos : Tos w' (.slice ob (okL ts).length od) (okL ts) := by
          have h9 : w'.ownsRow w1.heap.size 38 5 (.slice ob q od) (okL ts).length (flC Tone.cells (okL ts)) := by rw [HQ.out]; exact own_kept (own_kept HB.out HG4.out) hg
          have h := sla_of_own tone_len h9 AnyB (fun _ _ => trivial)
          rw [HQ.out]
          exact h
        have h := order_calls ob od (okL ts) w' htos (by rw [HQ.out]; omega)
        rw [HQ.out, hOL] at h
        refine h.mono ?_
        rintro e w2 ⟨oa, oc, rfl, h1, h2⟩
        refine ⟨oa, oc, rfl, ?_, h2⟩
        have h3 := h1.out
        have h9 : w2.ownsRow w'.heap.size 38 5 (.slice oa q oc) OL.length (flC Tone.cells OL) := by rw [hol]; exact h3
        exact sla_of_own tone_len h9 AnyB (fun _ _ => trivial)
      have SQ := Lib.hid (fun (w' : World) (oa2 : Option Addr) (oc2 : Nat) (hg : w4.grownBy w' none) (h : Tos w' (.slice oa2 q oc2) OL) => same_at xa q xc oa2 q oc2 OL w' hol hol (by have h9 := HXX.out; rw [hol] at h9; exact h9.grown hg) h (by rw [hol]; omega))
      have hwn : IntKind.i64.wrap ((n : Int) - 1) = (j : Int) := by rw [IntWalk.i64_in _ (by omega)]; omega
      have hjn : (j : Int) < (n : Int) := by omega
      have hnb : ((n : Int) == 0) = false := by simp [hn0]
      clear hol hOL hx hxt x0 x1 hn0 hj
      have hne := Mixed.Later.nonempty w4
      have k2 : ∀ n2 : Mixed.Later w4, n2.w.cell? ⟨xb, xo + j * 3 + 2, none⟩ = some (.slice xa q xc) := Mixed.Later.cell x2
      clear x2
      refine Mixed.wp_region_mixed (Mixed.late w4) (fun k => k == 12 || k == 13) (by kernel_rfl) (by kernel_rfl) (Mixed.late_of (grown_drew (grown_refl _ _))) ?_
      unfold Mixed.late
      refine Mixed.wpM_quiet rfl rfl rfl ?_; intro Kx hKx; go_big_quiet_op; go_big_quiet_on
      refine Mixed.wpM_quiet rfl rfl rfl ?_; intro Kx hKx; go_big_quiet_op; go_big_quiet_on
      refine Mixed.wpM_quiet rfl rfl rfl ?_; intro Kx hKx; go_big_quiet_op; go_big_quiet_on
      refine Mixed.wpM_quiet rfl rfl rfl ?_; intro Kx hKx; go_big_quiet_op; go_big_quiet_on
      refine Mixed.wpM_quiet rfl rfl rfl ?_; intro Kx hKx; go_big_quiet_op; go_big_quiet_on
      refine Mixed.wpM_quiet rfl rfl rfl ?_; intro Kx hKx; go_big_quiet_op; go_big_quiet_on
      refine Mixed.wpM_quiet rfl rfl rfl ?_; intro Kx hKx; go_big_quiet_op; go_big_quiet_on
      refine Mixed.wpM_quiet rfl rfl rfl ?_; intro Kx hKx; go_big_quiet_op; go_big_quiet_on
      refine Mixed.wpM_quiet rfl rfl rfl ?_; intro Kx hKx; go_big_quiet_op; go_big_quiet_on
      refine Mixed.wpM_quiet rfl rfl rfl ?_; intro Kx hKx; go_big_quiet_op; go_big_quiet_on
      refine Mixed.wpM_quiet rfl rfl rfl ?_; intro Kx hKx; go_big_quiet_op; go_big_quiet_on
      refine Mixed.wpM_quiet rfl rfl rfl ?_; intro Kx hKx; go_big_quiet_op; go_big_quiet_on
      refine Mixed.wpM_call rfl rfl 13 _ (by go_simp; rfl) ?_
      refine (OC.out _ (grown_drew (grown_refl _ _))).mono ?_
      rintro ez w5 ⟨oa5, oc5, rfl, ht5, hg5⟩
      have HG5 : Hid (w4.grownBy w5 none) := grown_trans (grown_drew (grown_refl _ _)) hg5.out
      have HT5 := Lib.hid ht5.out
      refine ⟨_, rfl, ⟨⟨w5, HG5.out⟩, rfl⟩, ?_⟩
      clear hg5 ht5
      go_simp
      refine Mixed.wpM_call rfl rfl 9 _ (by go_simp; rfl) ?_
      refine (SQ.out _ _ _ HG5.out HT5.out).mono ?_
      rintro ez w6 ⟨rfl, hg6⟩
      have HG6 : Hid (w4.grownBy w6 none) := grown_trans HG5.out hg6.out
      refine ⟨_, rfl, ⟨⟨w6, HG6.out⟩, rfl⟩, ?_⟩
      clear hg6
      go_simp
      refine Mixed.wpM_quiet rfl rfl rfl ?_; intro Kx hKx; go_big_quiet_op; go_big_quiet_on
      refine Mixed.wpM_quiet rfl rfl rfl ?_; intro Kx hKx; go_big_quiet_op; go_big_quiet_on
      refine Mixed.wpM_nil ?_
      intro nx hnx
      clear nx hnx k2 hne
      go_wp2_with fail
      go_ret
      exact ⟨rfl, grown_trans HGW.out HG6.out⟩
    have hkl : (k : Int) < (n : Int) := by omega
    obtain ⟨t, ht⟩ : ∃ t, ts[k]? = some t := ⟨ts[k]'(by rw [HN.out]; omega), List.getElem?_eq_getElem _⟩
    obtain ⟨b, off, rfl, _, hrg⟩ := sla_at HV.out ht
    have HTK : Hid (ts.take (k + 1) = ts.take k ++ [t]) := by unfold Hid; rw [List.take_add_one, ht]; rfl
    have WC := Lib.hid (fun w' => rwrong_calls (some ⟨w'.heap.size, 0, none⟩) 1 [t] (w'.alloc (.cells #[.int .i64 t.at_, .int .i64 t.long, .int .i64 t.lt, .int .i64 t.al, .int .i64 t.oc] 38)) (one_tos w' t) (by simp))
    have HOK : Hid (okL (ts.take (k + 1)) = if wrongT [t] = 0 then okL (ts.take k) ++ [t] else okL (ts.take k)) := by unfold Hid; rw [HTK.out, okL_snoc]
    clear ht
    obtain ⟨ta, tl, tt, tal, to_⟩ := t
    have e0 : wz.cell? ⟨b, off + k * 5, none⟩ = some (.int .i64 ta) := grown_cell HG.out (grown_cell HG1.out (hrg 0 _ rfl) (by simp)) (by simp)
    have e1 : wz.cell? ⟨b, off + k * 5 + 1, none⟩ = some (.int .i64 tl) := grown_cell HG.out (grown_cell HG1.out (hrg 1 _ rfl) (by simp)) (by simp)
    have e2 : wz.cell? ⟨b, off + k * 5 + 2, none⟩ = some (.int .i64 tt) := grown_cell HG.out (grown_cell HG1.out (hrg 2 _ rfl) (by simp)) (by simp)
    have e3 : wz.cell? ⟨b, off + k * 5 + 3, none⟩ = some (.int .i64 tal) := grown_cell HG.out (grown_cell HG1.out (hrg 3 _ rfl) (by simp)) (by simp)
    have e4 : wz.cell? ⟨b, off + k * 5 + 4, none⟩ = some (.int .i64 to_) := grown_cell HG.out (grown_cell HG1.out (hrg 4 _ rfl) (by simp)) (by simp)
    clear hrg
    obtain ⟨tb, htb⟩ : ∃ tb, wz.heap.size = tb := ⟨_, rfl⟩
    have HTB := Lib.hid htb
    clear htb
    go_upto_region 10 with fail
    simp only [HTB.out]
    obtain ⟨w2, hw2⟩ : ∃ w2, wz.alloc (.cells #[.int .i64 ta, .int .i64 tl, .int .i64 tt, .int .i64 tal, .int .i64 to_] 38) = w2 := ⟨_, rfl⟩
    have HG2 : Hid (wz.grownBy w2 none) := by unfold Hid; rw [← hw2]; exact grown_alloc (grown_refl _ _) _
    have HR2 : Hid (w2.heap[tb]? = some (.cells #[.int .i64 ta, .int .i64 tl, .int .i64 tt, .int .i64 tal, .int .i64 to_] 38 (0, 0))) := by unfold Hid; rw [← hw2, ← HTB.out]; exact heap_alloc_new _ _
    simp only [hw2]
    clear hw2 e0 e1 e2 e3 e4
    have p0 := cell_of HR2.out 0
    have p1 := cell_of HR2.out 1
    have p2 := cell_of HR2.out 2
    have p3 := cell_of HR2.out 3
    have p4 := cell_of HR2.out 4
    have HGA : Hid (w2.grownBy (w2.alloc (.cells #[.bool false, .int .i64 1, .int .i64 0, .int .i64 ta, .int .i64 tl, .int .i64 tt, .int .i64 tal, .int .i64 to_, .int .i64 0, .int .i64 0, .int .i64 0] 44)) none) := grown_alloc (grown_refl _ _) _
    have HOWN : Hid ((w2.alloc (.cells #[.bool false, .int .i64 1, .int .i64 0, .int .i64 ta, .int .i64 tl, .int .i64 tt, .int .i64 tal, .int .i64 to_, .int .i64 0, .int .i64 0, .int .i64 0] 44)).ownsRow w1.heap.size 44 11 (.slice oa k oc) k (flC stC ((ts.take k).map putS))) := own_kept (own_kept HA.out HG2.out) HGA.out
    have hqk : q ≤ k := HQK.out
    go_upto_region 11 with (at_builtin; refine wpList_append_own_at _ rfl _ _ 23 rfl w1.heap.size 44 i3 (.agg #[.bool false, .int .i64 0, .int .i64 0, .int .i64 0, .int .i64 0, .int .i64 0, .int .i64 0, .int .i64 0, .int .i64 0, .int .i64 0, .int .i64 0]) 11 88 Try.underlying23 hi3 hy0 hy1 hy2 rfl (by decide) (.slice oa k oc) k (flC stC ((ts.take k).map putS)) rfl HOWN.out ⟨w2.heap.size, 0, none⟩ 1 1 [.bool false, .int .i64 1, .int .i64 0, .int .i64 ta, .int .i64 tl, .int .i64 tt, .int .i64 tal, .int .i64 to_, .int .i64 0, .int .i64 0, .int .i64 0] rfl rfl (fun j u hu => by rw [show ((⟨w2.heap.size, 0, none⟩ : Addr).add j) = ⟨w2.heap.size, 0 + j, none⟩ from Addr.add_lit _ _ _, Nat.zero_add, cell_of (heap_alloc_new _ _), ← Array.getElem?_toList]; exact hu) (by simp [Value.oneCell']) (by unfold maxLen; omega) (by omega) (by have h1 := HG.out.size; have h2 := HG2.out.size; have h4 := HGA.out.size; omega) ?_; intro v3 w3 ho3 hg3 _ hb3; obtain ⟨oa3, oc3, rfl⟩ := own_slice ho3)
    have HG3 : Hid (w1.grownBy w3 none) := grown_own (grown_trans HG.out (grown_trans HG2.out HGA.out)) HOWN.out (Nat.le_refl _) hg3
    have HA3 : Hid (w3.ownsRow w1.heap.size 44 11 (.slice oa3 (k + 1) oc3) (k + 1) (flC stC ((ts.take (k + 1)).map putS))) := by
      unfold Hid
      rw [HTK.out, List.map_append, flC_append]
      exact ho3
    have hfr3 : Fr (fun b => (Value.slice oa k oc).ownBlock = some b) (w2.alloc (.cells #[.bool false, .int .i64 1, .int .i64 0, .int .i64 ta, .int .i64 tl, .int .i64 tt, .int .i64 tal, .int .i64 to_, .int .i64 0, .int .i64 0, .int .i64 0] 44)) w3 := .of hg3 (fun i e => e)
    have hr3 := hfr3.row (row_kept HGA.out HR2.out (by simp)) (fun hb => by
      have h1 := (own_base HA.out hb).2
      have h2 := HTB.out
      unfold Hid at h2
      omega)
    have HR3 := Lib.hid hr3
    have HB3 : Hid (w3.ownsRow w1.heap.size 38 5 (.slice ob q od) q (flC Tone.cells (okL (ts.take k)))) := own_fr (own_kept (own_kept HB.out HG2.out) HGA.out) hfr3 (fun b hb h => HNE.out b h hb)
    have HNE3 : Hid (∀ b, (Value.slice oa3 (k + 1) oc3).ownBlock = some b → (Value.slice ob q od).ownBlock ≠ some b) := fun b hb h => by
      rcases hb3 with h3 | h3
      · exact HNE.out b (by rw [← h3]; exact hb) h
      · rw [h3] at hb
        injection hb with hb
        have h1 := (own_base HB.out h).2
        have h2 := HG2.out.size
        have h4 := HGA.out.size
        omega
    clear ho3 hg3 hb3 hfr3 hr3 p0 p1 p2 p3 p4 HA HB HNE HOWN
    have p0 := cell_of HR3.out 0
    have p1 := cell_of HR3.out 1
    have p2 := cell_of HR3.out 2
    have p3 := cell_of HR3.out 3
    have p4 := cell_of HR3.out 4
    obtain ⟨R, hR⟩ : ∃ R, wrongT [⟨ta, tl, tt, tal, to_⟩] = R := ⟨_, rfl⟩
    simp only [hR] at WC HOK
    clear hR
    have hwk : IntKind.i64.wrap ((k : Int) + 1) = (k : Int) + 1 := IntWalk.i64_in _ (by omega)
    by_cases hR0 : R = 0
    rotate_left
    · have HO2 : Hid (okL (ts.take (k + 1)) = okL (ts.take k)) := by unfold Hid; rw [HOK.out, if_neg hR0]
      go_wp2_with (go_at_call 12; refine (WC.out _).mono ?_; rintro ez w5 ⟨rfl, hg5⟩)
      refine ⟨?_, by simp [intOf]; omega⟩
      have hg9 : w3.grownBy w5 none := grown_trans (grown_alloc (grown_refl _ _) _) hg5.out
      first
        | exact ⟨k + 1, q, oa3, ob, oc3, od, by omega, rfl, rfl, rfl, by rw [HO2.out]; exact HQ.out, by unfold Hid; omega, own_kept HA3.out hg9, by rw [HO2.out]; exact own_kept HB3.out hg9, HNE3.out, grown_trans HG3.out hg9⟩
        | (repeat apply Exists.intro
           refine ⟨?_, rfl⟩
           exact ⟨k + 1, q, oa3, ob, oc3, od, by omega, rfl, rfl, rfl, by rw [HO2.out]; exact HQ.out, by unfold Hid; omega, own_kept HA3.out hg9, by rw [HO2.out]; exact own_kept HB3.out hg9, HNE3.out, grown_trans HG3.out hg9⟩)
    subst hR0
    have HO2 : Hid (okL (ts.take (k + 1)) = okL (ts.take k) ++ [⟨ta, tl, tt, tal, to_⟩]) := by unfold Hid; rw [HOK.out, if_pos rfl]
    go_upto_region 12 with (go_at_call 12; refine (WC.out _).mono ?_; rintro ez w5 ⟨rfl, hg5⟩)
    obtain ⟨w5, rfl⟩ : ∃ w5' : World, w5' = w5 := ⟨_, rfl⟩
    have HG5 : Hid (w3.grownBy w5 none) := grown_trans (grown_alloc (grown_refl _ _) _) hg5.out
    have hr5 := row_kept HG5.out HR3.out (by simp)
    clear p0 p1 p2 p3 p4 hg5
    have p0 := cell_of hr5 0
    have p1 := cell_of hr5 1
    have p2 := cell_of hr5 2
    have p3 := cell_of hr5 3
    have p4 := cell_of hr5 4
    have HGT : Hid (w5.grownBy (w5.alloc (.cells #[.int .i64 ta, .int .i64 tl, .int .i64 tt, .int .i64 tal, .int .i64 to_] 38)) none) := grown_alloc (grown_refl _ _) _
    have HA5 := Lib.hid (own_kept (own_kept HA3.out HG5.out) HGT.out)
    have HB5 := Lib.hid (own_kept (own_kept HB3.out HG5.out) HGT.out)
    go_upto_region 13 with (at_builtin; refine wpList_append_own_at _ rfl _ _ 30 rfl w1.heap.size 38 i4 (.agg #[.int .i64 0, .int .i64 0, .int .i64 0, .int .i64 0, .int .i64 0]) 5 40 Try.underlying30 hi4 hu0 hu1 hu2 rfl (by decide) (.slice ob q od) q (flC Tone.cells (okL (ts.take k))) rfl HB5.out ⟨w5.heap.size, 0, none⟩ 1 1 [.int .i64 ta, .int .i64 tl, .int .i64 tt, .int .i64 tal, .int .i64 to_] rfl rfl (fun j u hu => by rw [show ((⟨w5.heap.size, 0, none⟩ : Addr).add j) = ⟨w5.heap.size, 0 + j, none⟩ from Addr.add_lit _ _ _, Nat.zero_add, cell_of (heap_alloc_new _ _), ← Array.getElem?_toList]; exact hu) (by simp [Value.oneCell']) (by unfold maxLen; omega) (by omega) (by have h1 := HG3.out.size; have h2 := HG5.out.size; have h4 := HGT.out.size; omega) ?_; intro v7 w7 ho7 hg7 _ hb7; obtain ⟨ob7, od7, rfl⟩ := own_slice ho7)
    have hg9 : w1.grownBy w7 none := grown_own (grown_trans HG3.out (grown_trans HG5.out HGT.out)) HB5.out (Nat.le_refl _) hg7
    have ha9 : w7.ownsRow w1.heap.size 44 11 (.slice oa3 (k + 1) oc3) (k + 1) (flC stC ((ts.take (k + 1)).map putS)) := own_fr HA5.out (.of (X := fun b => (Value.slice ob q od).ownBlock = some b) hg7 (fun i e => e)) (fun b hb h => HNE3.out b hb h)
    have hb9 : w7.ownsRow w1.heap.size 38 5 (.slice ob7 (q + 1) od7) (q + 1) (flC Tone.cells (okL (ts.take (k + 1)))) := by
      rw [HO2.out, flC_append]
      exact ho7
    have hq9 : (okL (ts.take (k + 1))).length = q + 1 := by rw [HO2.out, List.length_append, HQ.out]; rfl
    have hne9 : ∀ b, (Value.slice oa3 (k + 1) oc3).ownBlock = some b → (Value.slice ob7 (q + 1) od7).ownBlock ≠ some b := fun b hb h => by
      rcases hb7 with h3 | h3
      · exact HNE3.out b hb (by rw [← h3]; exact h)
      · rw [h3] at h
        injection h with h
        have h1 := (own_base HA3.out hb).2
        have h2 := HG5.out.size
        have h4 := HGT.out.size
        omega
    have FIN := Lib.hid (And.intro hg9 (And.intro ha9 (And.intro hb9 (And.intro hq9 hne9))))
    clear hg9 ha9 hb9 hq9 hne9 ho7 hg7 hb7 p0 p1 p2 p3 p4 hr5
    go_wp2_with fail
    refine ⟨?_, by simp [intOf]; omega⟩
    obtain ⟨hg9, ha9, hb9, hq9, hne9⟩ := FIN.out
    first
      | exact ⟨k + 1, q + 1, oa3, ob7, oc3, od7, by omega, rfl, rfl, rfl, hq9, by unfold Hid; omega, ha9, hb9, hne9, hg9⟩
      | (repeat apply Exists.intro
         refine ⟨?_, rfl⟩
         exact ⟨k + 1, q + 1, oa3, ob7, oc3, od7, by omega, rfl, rfl, rfl, hq9, by unfold Hid; omega, ha9, hb9, hne9, hg9⟩)
end Go.Proofs.Ytdnmimfichijgaa.KOrdL
