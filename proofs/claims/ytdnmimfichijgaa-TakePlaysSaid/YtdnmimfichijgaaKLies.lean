/- Lies, the reference's: the walk. -/
import Derived.Test.YtdnmimfichijgaaKMay
import Derived.Test.YtdnmimfichijgaaKEq
namespace Go.Proofs.Ytdnmimfichijgaa.KLies
open Go Go.RowKit Go.Proofs.Ytdnmimfichijgaa.KMod Go.Proofs.Ytdnmimfichijgaa.KTk Go.Proofs.Ytdnmimfichijgaa.KRead Go.Proofs.Ytdnmimfichijgaa.KCells Go.Proofs.Ytdnmimfichijgaa.KEq Go.Proofs.Ytdnmimfichijgaa.KOrd Go.Proofs.Ytdnmimfichijgaa.KRef Go.Proofs.Ytdnmimfichijgaa.KROk Go.Proofs.Ytdnmimfichijgaa.KRPl Go.Proofs.Ytdnmimfichijgaa.KStd Go.Proofs.Ytdnmimfichijgaa.KRTn Go.Proofs.Ytdnmimfichijgaa.KMay Go.Proofs.Ytdnmimfichijgaa.Hp Go.Proofs.Ytdnmimfichijgaa.Rd Go.Proofs.Ytdnmimfichijgaa.Opn
set_option linter.unusedVariables false
set_option linter.unusedSimpArgs false

theorem lies_stop {ws : List Int} {f : Nat} {l : List Ed} (h : ¬ (l.length * 8 + 8 ≤ ws.length ∧ l.length < 1024 ∧ ws.getD (l.length * 8) 0 = 1 ∧ edAt ws (l.length * 8) = plainE (edAt ws (l.length * 8)) ∧ mayR l (edAt ws (l.length * 8)) = 0)) : liesFrom ws f l = l := by
  cases f with
  | zero => rfl
  | succ f =>
    unfold liesFrom
    rw [if_neg h]
theorem lies_step {ws : List Int} {l : List Ed} (h1 : l.length * 8 + 8 ≤ ws.length) (h2 : l.length < 1024) (h3 : ws.getD (l.length * 8) 0 = 1) (h4 : edAt ws (l.length * 8) = plainE (edAt ws (l.length * 8))) (h5 : mayR l (edAt ws (l.length * 8)) = 0) :
    liesFrom ws (1024 - l.length) l = liesFrom ws (1024 - (l.length + 1)) (l ++ [edAt ws (l.length * 8)]) := by
  obtain ⟨f, hf⟩ : ∃ f, 1024 - l.length = f + 1 := ⟨1024 - (l.length + 1), by omega⟩
  rw [hf, show 1024 - (l.length + 1) = f from by omega]
  conv => lhs; unfold liesFrom
  rw [if_pos ⟨h1, h2, h3, h4, h5⟩]

theorem wpM_store {P : Program} {ops : Array Oper} {C : World → Prop} {B : Nat → Bool} {Q : Act → World → Prop} {k : Nat} {o : Oper} {rest : List Oper} {a : Act} {w : World} (hw : Region.wanted o (yielded ops a.tmps) = true) (hB : B k = true) (w' : World)
    (hr : (execOp a.eval o).run P w = .ok .skip w') (hc : C w') (h : Mixed.wpM P ops C B Q (k + 1) rest (a.put o.dst undef) w') : Mixed.wpM P ops C B Q k (o :: rest) a w := by
  refine Mixed.wpM_big hw hB ?_
  unfold Mixed.bigAt
  rw [hr]
  exact ⟨hc, h⟩

set_option maxHeartbeats 4000000 in
set_option maxRecDepth 100000 in
theorem lies_calls (ao : Option Addr) (c : Nat) (ws : List Int) (w : World) (hv : Ils w (.slice ao ws.length c) ws) (hcap : ws.length ≤ c) (hb : ws.length ≤ 17592186044416) :
    Calls Try.prog 17 #[.slice ao ws.length c] w fun e w' => ∃ oa oc, e = .returned (.slice oa (liesR ws).length oc) ∧ Hid (w'.ownsRow w.heap.size 40 7 (.slice oa (liesR ws).length oc) (liesR ws).length (flC Ed.cells (liesR ws))) ∧ Hid (w.grownBy w' none) := by
  obtain ⟨n, hn⟩ : ∃ n, ws.length = n := ⟨_, rfl⟩
  have HN := Lib.hid hn
  have HV := Lib.hid hv
  rw [hn] at HV hb hcap ⊢
  clear hv hn
  obtain ⟨LR, hLR⟩ : ∃ LR, liesR ws = LR := ⟨_, rfl⟩
  have HLR : Hid (LR = liesFrom ws (1024 - 0) []) := hLR.symm
  rw [hLR]
  clear hLR
  obtain ⟨i0, hi0, hz0, hz1, hz2⟩ := info_parts info40
  have hnb : (n : Int) ≤ 17592186044416 := by omega
  go_enter Try.func17, Try.ntmps17
  go_wp2_with fail
  go_loopw [3, 4] (fun v3 v4 wr => ∃ (L : List Ed) (k p : Nat) (oa : Option Addr) (oc : Nat), k ≤ 1024 ∧ p ≤ n ∧ v3 = .slice oa k oc ∧ v4 = .int .i64 (p : Int) ∧ Hid (L.length = k) ∧ Hid (p = k * 8) ∧ Hid (LR = liesFrom ws (1024 - k) L) ∧ Hid (Okay L) ∧ Hid (wr.ownsRow w.heap.size 40 7 (.slice oa k oc) k (flC Ed.cells L)) ∧ Hid (w.grownBy wr none)) (fun _ v4 _ => n - (intOf v4).toNat)
  case atStart => exact ⟨[], 0, 0, none, 0, Nat.zero_le _, Nat.zero_le _, rfl, rfl, rfl, rfl, HLR.out, okay_nil, World.ownsRow_nil _ _ _ _, grown_refl _ _⟩
  case round =>
    obtain ⟨L, k, p, oa, oc, hk, hpn, rfl, rfl, HLL, HP, HLF, HOK, HO, HG⟩ := hrel
    obtain ⟨wz, hwz⟩ : ∃ wz : World, wz = wr := ⟨_, rfl⟩
    subst hwz
    obtain ⟨p8, hp8⟩ : ∃ p8, p + 8 = p8 := ⟨_, rfl⟩
    have hwp : IntKind.i64.wrap ((p : Int) + 8) = (p8 : Int) := by rw [IntWalk.i64_in _ (by omega)]; omega
    have HP8 := Lib.hid hp8
    clear hp8
    by_cases hA : p8 ≤ n
    rotate_left
    · have HE : Hid (LR = L) := by
        unfold Hid
        rw [HLF.out]
        refine lies_stop (fun h => ?_)
        have h1 := h.1
        rw [HLL.out, HN.out] at h1
        have := HP.out
        have := HP8.out
        omega
      have hAi : decide ((p8 : Int) ≤ (n : Int)) = false := decide_eq_false (by omega)
      have hAj : ¬ (p8 : Int) ≤ (n : Int) := by omega
      go_wp2_with fail
      go_ret
      rw [HE.out, HLL.out]
      exact ⟨_, _, rfl, HO.out, HG.out⟩
    have hAi : decide ((p8 : Int) ≤ (n : Int)) = true := decide_eq_true (by omega)
    have hAj : (p8 : Int) ≤ (n : Int) := by omega
    by_cases hB : k < 1024
    rotate_left
    · have HE : Hid (LR = L) := by
        unfold Hid
        rw [HLF.out]
        refine lies_stop (fun h => ?_)
        have h1 := h.2.1
        rw [HLL.out] at h1
        omega
      have hBi : decide ((k : Int) < 1024) = false := decide_eq_false (by omega)
      have hBj : ¬ (k : Int) < 1024 := by omega
      go_wp2_with fail
      go_ret
      rw [HE.out, HLL.out]
      exact ⟨_, _, rfl, HO.out, HG.out⟩
    have hBi : decide ((k : Int) < 1024) = true := decide_eq_true (by omega)
    have hBj : (k : Int) < 1024 := by omega
    obtain ⟨b, off, rfl, hrd⟩ : ∃ b off, ao = some ⟨b, off, none⟩ ∧ ∀ i, i < 8 → w.cell? ⟨b, off + p + i, none⟩ = some (.int .i64 (ws.getD (p + i) 0)) := by
      rcases HV.out with ⟨b, off, cap, e, h⟩ | ⟨_, _, e, h0⟩
      · simp only [Value.slice.injEq] at e
        refine ⟨b, off, e.1, fun i hi => ?_⟩
        have hl : p + i < ws.length := by rw [HN.out]; have := HP8.out; unfold Hid at this; omega
        obtain ⟨u, hu, hr⟩ := h (p + i) _ (List.getElem?_eq_getElem hl)
        rw [List.getD_eq_getElem?_getD, List.getElem?_eq_getElem hl, Nat.add_assoc, hu, hr]
        rfl
      · have h1 := HN.out
        rw [h0] at h1
        have := HP8.out
        unfold Hid at this
        simp at h1
        omega
    obtain ⟨⟨D, N, ⟨ta, tl, tt, tal, to_⟩⟩, hE⟩ : ∃ E, edAt ws p = E := ⟨_, rfl⟩
    obtain ⟨x0, hx0⟩ : ∃ x, ws.getD p 0 = x := ⟨_, rfl⟩
    have HE := Lib.hid hE
    have HX := Lib.hid hx0
    unfold edAt at hE
    simp only [Ed.mk.injEq, Tone.mk.injEq] at hE
    obtain ⟨g0, g1, g2, g3, g4, g5, g6⟩ := hE
    have e0 : wz.cell? ⟨b, off + p, none⟩ = some (.int .i64 x0) := by rw [← hx0]; exact grown_cell HG.out (hrd 0 (by decide)) (by simp)
    have e1 : wz.cell? ⟨b, off + p + 1, none⟩ = some (.int .i64 D) := by rw [← g0]; exact grown_cell HG.out (hrd 1 (by decide)) (by simp)
    have e2 : wz.cell? ⟨b, off + p + 2, none⟩ = some (.int .i64 N) := by rw [← g1]; exact grown_cell HG.out (hrd 2 (by decide)) (by simp)
    have e3 : wz.cell? ⟨b, off + p + 3, none⟩ = some (.int .i64 ta) := by rw [← g2]; exact grown_cell HG.out (hrd 3 (by decide)) (by simp)
    have e4 : wz.cell? ⟨b, off + p + 4, none⟩ = some (.int .i64 tl) := by rw [← g3]; exact grown_cell HG.out (hrd 4 (by decide)) (by simp)
    have e5 : wz.cell? ⟨b, off + p + 5, none⟩ = some (.int .i64 tt) := by rw [← g4]; exact grown_cell HG.out (hrd 5 (by decide)) (by simp)
    have e6 : wz.cell? ⟨b, off + p + 6, none⟩ = some (.int .i64 tal) := by rw [← g5]; exact grown_cell HG.out (hrd 6 (by decide)) (by simp)
    have e7 : wz.cell? ⟨b, off + p + 7, none⟩ = some (.int .i64 to_) := by rw [← g6]; exact grown_cell HG.out (hrd 7 (by decide)) (by simp)
    clear hrd g0 g1 g2 g3 g4 g5 g6 hx0
    have h88 : p8 - p = 8 := by have := HP8.out; unfold Hid at this; omega
    have hpl : (p : Int) ≤ (p8 : Int) := by have := HP8.out; unfold Hid at this; omega
    have hpc : (p8 : Int) ≤ (c : Int) := by omega
    have hpc2 : ¬ (c : Int) = (p : Int) := by have := HP8.out; unfold Hid at this; omega
    have hpc3 : ¬ c = p := by have := HP8.out; unfold Hid at this; omega
    obtain ⟨eb, heb⟩ : ∃ eb, wz.heap.size = eb := ⟨_, rfl⟩
    have HEB := Lib.hid heb
    clear heb
    go_upto_region 6 with fail
    obtain ⟨wf, hwf⟩ : ∃ wf : World, wf = wz := ⟨_, rfl⟩
    subst hwf
    have hne := Mixed.Later.nonempty wf
    have f0 : ∀ n2 : Mixed.Later wf, n2.w.cell? ⟨b, off + p, none⟩ = some (.int .i64 x0) := Mixed.Later.cell e0
    have f1 : ∀ n2 : Mixed.Later wf, n2.w.cell? ⟨b, off + p + 1, none⟩ = some (.int .i64 D) := Mixed.Later.cell e1
    have f2 : ∀ n2 : Mixed.Later wf, n2.w.cell? ⟨b, off + p + 2, none⟩ = some (.int .i64 N) := Mixed.Later.cell e2
    have f3 : ∀ n2 : Mixed.Later wf, n2.w.cell? ⟨b, off + p + 3, none⟩ = some (.int .i64 ta) := Mixed.Later.cell e3
    have f4 : ∀ n2 : Mixed.Later wf, n2.w.cell? ⟨b, off + p + 4, none⟩ = some (.int .i64 tl) := Mixed.Later.cell e4
    have f5 : ∀ n2 : Mixed.Later wf, n2.w.cell? ⟨b, off + p + 5, none⟩ = some (.int .i64 tt) := Mixed.Later.cell e5
    have f6 : ∀ n2 : Mixed.Later wf, n2.w.cell? ⟨b, off + p + 6, none⟩ = some (.int .i64 tal) := Mixed.Later.cell e6
    have f7 : ∀ n2 : Mixed.Later wf, n2.w.cell? ⟨b, off + p + 7, none⟩ = some (.int .i64 to_) := Mixed.Later.cell e7
    refine Mixed.wp_region_mixed (Mixed.late wf) (fun k => k == 24 || k == 25) (by kernel_rfl) (by kernel_rfl) (Mixed.late_of (grown_drew (grown_refl _ _))) ?_
    unfold Mixed.late
    refine Mixed.wpM_quiet rfl rfl rfl ?_; intro Kx hKx; go_big_quiet_op; go_big_quiet_on
    refine Mixed.wpM_quiet rfl rfl rfl ?_; intro Kx hKx; go_big_quiet_op; go_big_quiet_on
    refine Mixed.wpM_quiet rfl rfl rfl ?_; intro Kx hKx; go_big_quiet_op; go_big_quiet_on
    refine Mixed.wpM_quiet rfl rfl rfl ?_; intro Kx hKx; go_big_quiet_op; go_big_quiet_on
    refine Mixed.wpM_quiet rfl rfl rfl ?_; intro Kx hKx; go_big_quiet_op; go_big_quiet_on
    refine Mixed.wpM_quiet rfl rfl rfl ?_; intro Kx hKx; go_big_quiet_op; go_big_quiet_on
    refine Mixed.wpM_quiet rfl rfl rfl ?_; intro Kx hKx; go_big_quiet_op; go_big_quiet_on
    refine Mixed.wpM_quiet rfl rfl rfl ?_; intro Kx hKx; go_big_quiet_op; go_big_quiet_on
    refine Mixed.wpM_quiet rfl rfl rfl ?_; intro Kx hKx; go_big_quiet_op; go_big_quiet_on
    refine Mixed.wpM_quiet rfl rfl rfl ?_; intro Kx hKx; go_big_quiet_op; go_big_quiet_on
    refine Mixed.wpM_quiet rfl rfl rfl ?_; intro Kx hKx; go_big_quiet_op; go_big_quiet_on
    refine Mixed.wpM_quiet rfl rfl rfl ?_; intro Kx hKx; go_big_quiet_op; go_big_quiet_on
    refine Mixed.wpM_quiet rfl rfl rfl ?_; intro Kx hKx; go_big_quiet_op; go_big_quiet_on
    refine Mixed.wpM_quiet rfl rfl rfl ?_; intro Kx hKx; go_big_quiet_op; go_big_quiet_on
    refine Mixed.wpM_quiet rfl rfl rfl ?_; intro Kx hKx; go_big_quiet_op; go_big_quiet_on
    refine Mixed.wpM_quiet rfl rfl rfl ?_; intro Kx hKx; go_big_quiet_op; go_big_quiet_on
    refine Mixed.wpM_quiet rfl rfl rfl ?_; intro Kx hKx; go_big_quiet_op; go_big_quiet_on
    refine Mixed.wpM_quiet rfl rfl rfl ?_; intro Kx hKx; go_big_quiet_op; go_big_quiet_on
    refine Mixed.wpM_quiet rfl rfl rfl ?_; intro Kx hKx; go_big_quiet_op; go_big_quiet_on
    refine Mixed.wpM_quiet rfl rfl rfl ?_; intro Kx hKx; go_big_quiet_op; go_big_quiet_on
    refine Mixed.wpM_quiet rfl rfl rfl ?_; intro Kx hKx; go_big_quiet_op; go_big_quiet_on
    refine Mixed.wpM_quiet rfl rfl rfl ?_; intro Kx hKx; go_big_quiet_op; go_big_quiet_on
    refine Mixed.wpM_quiet rfl rfl rfl ?_; intro Kx hKx; go_big_quiet_op; go_big_quiet_on
    refine Mixed.wpM_quiet rfl rfl rfl ?_; intro Kx hKx; go_big_quiet_op; go_big_quiet_on
    refine Mixed.wpM_make rfl rfl (.pointer (some ⟨wf.heap.size, 0, none⟩)) (wf.drew.alloc (.cells #[.int .i64 0, .int .i64 0, .int .i64 0, .int .i64 0, .int .i64 0, .int .i64 0, .int .i64 0] 40)) (by go_simp) ⟨⟨_, grown_alloc (grown_drew (grown_refl _ _)) _⟩, rfl⟩ ?_
    go_simp
    refine wpM_store rfl rfl (wf.drew.alloc (.cells #[.int .i64 D, .int .i64 N, .int .i64 ta, .int .i64 tl, .int .i64 tt, .int .i64 tal, .int .i64 to_] 40)) (by go_simp) ⟨⟨_, grown_alloc (grown_drew (grown_refl _ _)) _⟩, rfl⟩ ?_
    refine Mixed.wpM_nil ?_
    intro nx hnx
    dsimp only [Act.put]
    clear nx hnx f0 f1 f2 f3 f4 f5 f6 f7 hne
    go_upto_region 7 with fail
    simp only [HEB.out]
    obtain ⟨w1, hw1⟩ : ∃ w1, wf.drew.alloc (.cells #[.int .i64 D, .int .i64 N, .int .i64 ta, .int .i64 tl, .int .i64 tt, .int .i64 tal, .int .i64 to_] 40) = w1 := ⟨_, rfl⟩
    have HGF : Hid (wf.grownBy w1 none) := by unfold Hid; rw [← hw1]; exact grown_alloc (grown_drew (grown_refl _ _)) _
    have HR1 : Hid (w1.heap[eb]? = some (.cells #[.int .i64 D, .int .i64 N, .int .i64 ta, .int .i64 tl, .int .i64 tt, .int .i64 tal, .int .i64 to_] 40 (0, 0))) := by
      unfold Hid
      rw [← hw1, ← HEB.out]
      exact heap_alloc_new wf.drew _
    simp only [hw1]
    have HG1 : Hid (w.grownBy w1 none) := grown_trans HG.out HGF.out
    have HO1 := Lib.hid (own_kept HO.out HGF.out)
    have u0 := grown_cell HGF.out e0 (by simp)
    clear hw1 e0 e1 e2 e3 e4 e5 e6 e7 HO
    have HPL : Hid (L.length * 8 = p) := by unfold Hid; rw [HLL.out]; exact HP.out.symm
    have HSTOP : Hid (∀ (h : ¬ (x0 = 1 ∧ ⟨D, N, ⟨ta, tl, tt, tal, to_⟩⟩ = plainE ⟨D, N, ⟨ta, tl, tt, tal, to_⟩⟩ ∧ mayR L ⟨D, N, ⟨ta, tl, tt, tal, to_⟩⟩ = 0)), LR = L) := by
      intro h
      rw [HLF.out]
      refine lies_stop (fun hh => h ?_)
      have h9 := hh.2.2
      rw [HPL.out, HE.out, HX.out] at h9
      exact h9
    have HFIN : Hid (∀ (h : LR = L) (w' : World), w1.grownBy w' none → ∃ oa' oc', Ending.returned (.slice oa k oc) = .returned (.slice oa' LR.length oc') ∧ Hid (w'.ownsRow w.heap.size 40 7 (.slice oa' LR.length oc') LR.length (flC Ed.cells LR)) ∧ Hid (w.grownBy w' none)) := by
      intro h w' hg
      rw [h, HLL.out]
      exact ⟨_, _, rfl, own_kept HO1.out hg, grown_trans HG1.out hg⟩
    by_cases hx1 : x0 = 1
    rotate_left
    · have HL9 := Lib.hid (HSTOP.out (fun h => hx1 h.1))
      have hxb : (x0 != 1) = true := by simpa using hx1
      go_quiet (fail)
      go_wp2_with fail
      go_ret
      exact HFIN.out HL9.out _ (grown_drewN (grown_refl _ _) _)
    subst hx1
    have HPC := Lib.hid (fun w' => rplain_calls ⟨D, N, ⟨ta, tl, tt, tal, to_⟩⟩ w')
    have HMC := Lib.hid (fun (w' : World) (hg : w1.grownBy w' none) => may_calls oa oc L ⟨D, N, ⟨ta, tl, tt, tal, to_⟩⟩ w' ((by have h := own_sla ed_len HLL.out (own_kept HO1.out hg); rw [HLL.out]; exact h)) HOK.out (by rw [HLL.out]; exact hk))
    rw [HLL.out] at HMC
    have q40 := neq40 ⟨D, N, ⟨ta, tl, tt, tal, to_⟩⟩ (plainE ⟨D, N, ⟨ta, tl, tt, tal, to_⟩⟩)
    have g40 := guard40
    have hne := Mixed.Later.nonempty w1
    have a0 : ∀ n2 : Mixed.Later w1, n2.w.cell? ⟨b, off + p, none⟩ = some (.int .i64 1) := Mixed.Later.cell u0
    have b0 : ∀ n2 : Mixed.Later w1, n2.w.cell? ⟨eb, 0, none⟩ = some (.int .i64 D) := Mixed.Later.cell (cell_of HR1.out 0)
    have b1 : ∀ n2 : Mixed.Later w1, n2.w.cell? ⟨eb, 1, none⟩ = some (.int .i64 N) := Mixed.Later.cell (cell_of HR1.out 1)
    have b2 : ∀ n2 : Mixed.Later w1, n2.w.cell? ⟨eb, 2, none⟩ = some (.int .i64 ta) := Mixed.Later.cell (cell_of HR1.out 2)
    have b3 : ∀ n2 : Mixed.Later w1, n2.w.cell? ⟨eb, 3, none⟩ = some (.int .i64 tl) := Mixed.Later.cell (cell_of HR1.out 3)
    have b4 : ∀ n2 : Mixed.Later w1, n2.w.cell? ⟨eb, 4, none⟩ = some (.int .i64 tt) := Mixed.Later.cell (cell_of HR1.out 4)
    have b5 : ∀ n2 : Mixed.Later w1, n2.w.cell? ⟨eb, 5, none⟩ = some (.int .i64 tal) := Mixed.Later.cell (cell_of HR1.out 5)
    have b6 : ∀ n2 : Mixed.Later w1, n2.w.cell? ⟨eb, 6, none⟩ = some (.int .i64 to_) := Mixed.Later.cell (cell_of HR1.out 6)
    obtain ⟨⟨D2, N2, ⟨sa, sl, st, sal, so⟩⟩, hpe⟩ : ∃ E, plainE ⟨D, N, ⟨ta, tl, tt, tal, to_⟩⟩ = E := ⟨_, rfl⟩
    have HPE := Lib.hid hpe
    rw [hpe] at q40
    simp only [hpe] at HPC
    clear hpe u0
    obtain ⟨EB, hEB⟩ : ∃ EB, decide (⟨D, N, ⟨ta, tl, tt, tal, to_⟩⟩ = (⟨D2, N2, ⟨sa, sl, st, sal, so⟩⟩ : Ed)) = EB := ⟨_, rfl⟩
    have HEBq := Lib.hid hEB
    simp only [hEB] at q40
    clear hEB
    obtain ⟨M, hM⟩ : ∃ M, mayR L ⟨D, N, ⟨ta, tl, tt, tal, to_⟩⟩ = M := ⟨_, rfl⟩
    have HMM := Lib.hid hM
    simp only [hM] at HMC
    clear hM
    refine Mixed.wp_region_mixed (Mixed.late w1) (fun k => k == 7 || k == 13) (by kernel_rfl) (by kernel_rfl) (Mixed.late_of (grown_drew (grown_refl _ _))) ?_
    unfold Mixed.late
    refine Mixed.wpM_quiet rfl rfl rfl ?_; intro Kx hKx; go_big_quiet_op; go_big_quiet_on
    refine Mixed.wpM_quiet rfl rfl rfl ?_; intro Kx hKx; go_big_quiet_op; go_big_quiet_on
    refine Mixed.wpM_quiet rfl rfl rfl ?_; intro Kx hKx; go_big_quiet_op; go_big_quiet_on
    refine Mixed.wpM_quiet rfl rfl rfl ?_; intro Kx hKx; go_big_quiet_op; go_big_quiet_on
    refine Mixed.wpM_quiet rfl rfl rfl ?_; intro Kx hKx; go_big_quiet_op; go_big_quiet_on
    refine Mixed.wpM_quiet rfl rfl rfl ?_; intro Kx hKx; go_big_quiet_op; go_big_quiet_on
    refine Mixed.wpM_quiet rfl rfl rfl ?_; intro Kx hKx; go_big_quiet_op; go_big_quiet_on
    refine Mixed.wpM_call rfl rfl 18 _ (by go_simp; rfl) ?_
    refine (HPC.out _).mono ?_
    rintro ez w9 ⟨rfl, hg9⟩
    have HG9 : Hid (w1.grownBy w9 none) := grown_trans (grown_drew (grown_refl _ _)) hg9.out
    refine ⟨_, rfl, ⟨⟨w9, HG9.out⟩, rfl⟩, ?_⟩
    clear hg9
    go_simp
    cases EB with
    | false =>
      have HL9 := Lib.hid (HSTOP.out (fun h => by
        have h1 := of_decide_eq_false HEBq.out
        apply h1
        have h2 := h.2.1
        rw [HPE.out] at h2
        exact h2))
      simp only [Bool.not_false] at q40
      refine Mixed.wpM_quiet rfl rfl rfl ?_; intro Kx hKx; go_big_quiet_op; go_big_quiet_on
      refine Mixed.wpM_quiet rfl rfl rfl ?_; intro Kx hKx; go_big_quiet_op; go_big_quiet_on
      refine Mixed.wpM_quiet rfl rfl rfl ?_; intro Kx hKx; go_big_quiet_op; go_big_quiet_on
      refine Mixed.wpM_skip rfl ?_; go_simp
      refine Mixed.wpM_skip rfl ?_; go_simp
      refine Mixed.wpM_skip rfl ?_; go_simp
      refine Mixed.wpM_skip rfl ?_; go_simp
      refine Mixed.wpM_quiet rfl rfl rfl ?_; intro Kx hKx; go_big_quiet_op; go_big_quiet_on
      refine Mixed.wpM_nil ?_
      intro nx hnx
      clear nx hnx a0 b0 b1 b2 b3 b4 b5 b6 hne q40 g40
      go_wp2_with fail
      go_ret
      exact HFIN.out HL9.out _ HG9.out
    | true =>
      simp only [Bool.not_true] at q40
      refine Mixed.wpM_quiet rfl rfl rfl ?_; intro Kx hKx; go_big_quiet_op; go_big_quiet_on
      refine Mixed.wpM_quiet rfl rfl rfl ?_; intro Kx hKx; go_big_quiet_op; go_big_quiet_on
      refine Mixed.wpM_quiet rfl rfl rfl ?_; intro Kx hKx; go_big_quiet_op; go_big_quiet_on
      refine Mixed.wpM_quiet rfl rfl rfl ?_; intro Kx hKx; go_big_quiet_op; go_big_quiet_on
      refine Mixed.wpM_quiet rfl rfl rfl ?_; intro Kx hKx; go_big_quiet_op; go_big_quiet_on
      refine Mixed.wpM_call rfl rfl 19 _ (by go_simp; rfl) ?_
      refine (HMC.out _ HG9.out).mono ?_
      rintro ez w10 ⟨rfl, hg10⟩
      have HG10 : Hid (w1.grownBy w10 none) := grown_trans HG9.out hg10.out
      refine ⟨_, rfl, ⟨⟨w10, HG10.out⟩, rfl⟩, ?_⟩
      clear hg10
      go_simp
      refine Mixed.wpM_quiet rfl rfl rfl ?_; intro Kx hKx; go_big_quiet_op; go_big_quiet_on
      refine Mixed.wpM_quiet rfl rfl rfl ?_; intro Kx hKx; go_big_quiet_op; go_big_quiet_on
      refine Mixed.wpM_nil ?_
      intro nx hnx
      clear nx hnx a0 b0 b1 b2 b3 b4 b5 b6 hne q40 g40
      by_cases hM0 : M = 0
      rotate_left
      · have HL9 := Lib.hid (HSTOP.out (fun h => hM0 (by rw [← HMM.out]; exact h.2.2)))
        have hMb : (M != 0) = true := by simpa using hM0
        go_wp2_with fail
        go_ret
        exact HFIN.out HL9.out _ HG10.out
      subst hM0
      have HEP : Hid (⟨D, N, ⟨ta, tl, tt, tal, to_⟩⟩ = plainE ⟨D, N, ⟨ta, tl, tt, tal, to_⟩⟩) := by
        unfold Hid
        rw [HPE.out]
        exact of_decide_eq_true HEBq.out
      have HLN : Hid (LR = liesFrom ws (1024 - (k + 1)) (L ++ [⟨D, N, ⟨ta, tl, tt, tal, to_⟩⟩])) := by
        unfold Hid
        rw [HLF.out]
        have h := lies_step (ws := ws) (l := L) (by rw [HPL.out, HN.out]; have := HP8.out; unfold Hid at this; omega) (by rw [HLL.out]; exact hB) (by rw [HPL.out]; exact HX.out) (by rw [HPL.out, HE.out]; exact HEP.out) (by rw [HPL.out, HE.out]; exact HMM.out)
        rw [HPL.out, HE.out, HLL.out] at h
        exact h
      have HOK2 : Hid (Okay (L ++ [⟨D, N, ⟨ta, tl, tt, tal, to_⟩⟩])) := okay_snoc HOK.out HMM.out
      have HLL2 : Hid ((L ++ [(⟨D, N, ⟨ta, tl, tt, tal, to_⟩⟩ : Ed)]).length = k + 1) := by unfold Hid; rw [List.length_append, HLL.out]; rfl
      have HR10 := Lib.hid (row_kept HG10.out HR1.out (by simp))
      have v0 : w10.cell? ⟨eb, 0, none⟩ = some (.int .i64 D) := cell_of HR10.out 0
      have v1 : w10.cell? ⟨eb, 1, none⟩ = some (.int .i64 N) := cell_of HR10.out 1
      have v2 : w10.cell? ⟨eb, 2, none⟩ = some (.int .i64 ta) := cell_of HR10.out 2
      have v3 : w10.cell? ⟨eb, 3, none⟩ = some (.int .i64 tl) := cell_of HR10.out 3
      have v4 : w10.cell? ⟨eb, 4, none⟩ = some (.int .i64 tt) := cell_of HR10.out 4
      have v5 : w10.cell? ⟨eb, 5, none⟩ = some (.int .i64 tal) := cell_of HR10.out 5
      have v6 : w10.cell? ⟨eb, 6, none⟩ = some (.int .i64 to_) := cell_of HR10.out 6
      have HGT : Hid (w10.grownBy (w10.alloc (.cells #[.int .i64 D, .int .i64 N, .int .i64 ta, .int .i64 tl, .int .i64 tt, .int .i64 tal, .int .i64 to_] 40)) none) := grown_alloc (grown_refl _ _) _
      have HO10 := Lib.hid (own_kept (own_kept HO1.out HG10.out) HGT.out)
      have HP2 : Hid (p8 = (k + 1) * 8) := by unfold Hid; have h1 := HP8.out; have h2 := HP.out; unfold Hid at h1 h2; omega
      have hp8n : p8 ≤ n := hA
      go_upto_region 4 with (at_builtin; refine wpList_append_own_at _ rfl _ _ 58 rfl w.heap.size 40 i0 (.agg #[.int .i64 0, .int .i64 0, .int .i64 0, .int .i64 0, .int .i64 0, .int .i64 0, .int .i64 0]) 7 56 Try.underlying58 hi0 hz0 hz1 hz2 rfl (by decide) (.slice oa k oc) k (flC Ed.cells L) rfl HO10.out ⟨w10.heap.size, 0, none⟩ 1 1 [.int .i64 D, .int .i64 N, .int .i64 ta, .int .i64 tl, .int .i64 tt, .int .i64 tal, .int .i64 to_] rfl rfl (fun j u hu => by rw [show ((⟨w10.heap.size, 0, none⟩ : Addr).add j) = ⟨w10.heap.size, 0 + j, none⟩ from Addr.add_lit _ _ _, Nat.zero_add, cell_of (heap_alloc_new _ _), ← Array.getElem?_toList]; exact hu) (by simp [Value.oneCell']) (by unfold maxLen; omega) (by omega) (by have h1 := HG1.out.size; have h2 := HG10.out.size; have h3 := HGT.out.size; omega) ?_; intro v3 w3 ho3 hg3 _ hb3; obtain ⟨oa3, oc3, rfl⟩ := own_slice ho3)
      have HO3 : Hid (w3.ownsRow w.heap.size 40 7 (.slice oa3 (k + 1) oc3) (k + 1) (flC Ed.cells (L ++ [⟨D, N, ⟨ta, tl, tt, tal, to_⟩⟩]))) := by
        unfold Hid
        rw [flC_append]
        exact ho3
      have HG3 : Hid (w.grownBy w3 none) := grown_own (grown_trans HG1.out (grown_trans HG10.out HGT.out)) HO10.out (Nat.le_refl _) hg3
      clear ho3 hg3 hb3 v0 v1 v2 v3 v4 v5 v6
      go_wp2_with fail
      refine ⟨?_, by have h1 := HP8.out; unfold Hid at h1; simp [intOf]; omega⟩
      first
        | exact ⟨L ++ [(⟨D, N, ⟨ta, tl, tt, tal, to_⟩⟩ : Ed)], k + 1, p8, oa3, oc3, by omega, hA, rfl, rfl, HLL2.out, HP2.out, HLN.out, HOK2.out, HO3.out, HG3.out⟩
        | (repeat apply Exists.intro
           refine ⟨?_, rfl⟩
           exact ⟨L ++ [(⟨D, N, ⟨ta, tl, tt, tal, to_⟩⟩ : Ed)], k + 1, p8, oa3, oc3, by omega, hA, rfl, rfl, HLL2.out, HP2.out, HLN.out, HOK2.out, HO3.out, HG3.out⟩)
end Go.Proofs.Ytdnmimfichijgaa.KLies
