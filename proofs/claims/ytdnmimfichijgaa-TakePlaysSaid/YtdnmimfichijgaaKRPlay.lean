/- Play, the reference's: the walk. -/
import Derived.Test.YtdnmimfichijgaaKPR
namespace Go.Proofs.Ytdnmimfichijgaa.KRPlay
open Go Go.RowKit Go.Proofs.Ytdnmimfichijgaa.KMod Go.Proofs.Ytdnmimfichijgaa.KTk Go.Proofs.Ytdnmimfichijgaa.KRead Go.Proofs.Ytdnmimfichijgaa.KCells Go.Proofs.Ytdnmimfichijgaa.KDisk Go.Proofs.Ytdnmimfichijgaa.KNext Go.Proofs.Ytdnmimfichijgaa.KDo Go.Proofs.Ytdnmimfichijgaa.KTake Go.Proofs.Ytdnmimfichijgaa.KOrd Go.Proofs.Ytdnmimfichijgaa.KStep Go.Proofs.Ytdnmimfichijgaa.KRef Go.Proofs.Ytdnmimfichijgaa.KROk Go.Proofs.Ytdnmimfichijgaa.KRPl Go.Proofs.Ytdnmimfichijgaa.KStd Go.Proofs.Ytdnmimfichijgaa.KRTn Go.Proofs.Ytdnmimfichijgaa.KMay Go.Proofs.Ytdnmimfichijgaa.KLies Go.Proofs.Ytdnmimfichijgaa.KPR Go.Proofs.Ytdnmimfichijgaa.App Go.Proofs.Ytdnmimfichijgaa.Hp Go.Proofs.Ytdnmimfichijgaa.Rd Go.Proofs.Ytdnmimfichijgaa.Opn
set_option linter.unusedVariables false
set_option linter.unusedSimpArgs false

theorem arr_tail (x : Value) (l : List Value) (j : Nat) : ((x :: l).toArray)[1 + j]? = l[j]? := by
  rw [Nat.add_comm]
  simp

set_option maxHeartbeats 8000000 in
set_option maxRecDepth 100000 in
theorem rplay_calls (wa sa : Option Addr) (wc sc : Nat) (ws : List Int) (ps : List Stp) (w : World) (hw : Ils w (.slice wa ws.length wc) ws) (hp : SlA 11 stC w AnyB (.slice sa ps.length sc) ps) (hwb : ws.length ≤ 17592186044416) (hpb : ps.length * 88 ≤ 140737488355328) :
    Calls Try.prog 8 #[.slice wa ws.length wc, .slice sa ps.length sc] w
      fun r w' => ∃ v ao c ys, r = .returned (.tuple #[v, .slice ao ws.length c]) ∧ Hid (ys.map Prod.fst = (runR ⟨liesR ws, false⟩ ⟨ws, -1⟩ ps).1) ∧ Hid (OutR w' w.heap.size AnyB v ys) ∧ Hid (Ils w' (.slice ao ws.length c) (runR ⟨liesR ws, false⟩ ⟨ws, -1⟩ ps).2.words) ∧ Hid (w.grownBy w' none) := by
  obtain ⟨RR, hRR⟩ : ∃ RR, runR ⟨liesR ws, false⟩ ⟨ws, -1⟩ ps = RR := ⟨_, rfl⟩
  have HRR := Lib.hid hRR
  rw [hRR]
  clear hRR
  have HW := Lib.hid hw
  have HP := Lib.hid hp
  obtain ⟨ln, hln⟩ : ∃ ln, ws.length = ln := ⟨_, rfl⟩
  have HLN := Lib.hid hln
  obtain ⟨n, hn⟩ : ∃ n, ps.length = n := ⟨_, rfl⟩
  have HN := Lib.hid hn
  rw [hln] at HW hwb ⊢
  rw [hn] at HP hpb ⊢
  clear hw hp hln hn
  obtain ⟨i0, hi0, hz0, hz1, hz2⟩ := info_parts info2
  have HEMP : Hid ((w.alloc (.cells #[] 2)).ownsRow w.heap.size 2 1 (.slice (some ⟨w.heap.size, 0, none⟩) 0 0) 0 []) := ⟨rfl, .inr ⟨w.heap.size, 0, #[], rfl, Nat.le_refl _, heap_alloc_new _ _, Nat.le_refl _, Nat.zero_le _, rfl, rfl⟩⟩
  have HGA : Hid (w.grownBy (w.alloc (.cells #[] 2)) none) := grown_alloc (grown_refl _ _) _
  have HWA := Lib.hid (HW.out.grown HGA.out)
  have hnb : (n : Int) ≤ 1599289640401 := by omega
  have HOC : Hid (∀ u ∈ ws.map (Value.int .i64), u.oneCell' = true) := by
    intro u hu
    rw [List.mem_map] at hu
    obtain ⟨x, _, rfl⟩ := hu
    rfl
  have HNW : Hid (∀ (j : Nat) (u : Value), (ws.map (Value.int .i64))[j]? = some u → ∃ b off, wa = some ⟨b, off, none⟩ ∧ (w.alloc (.cells #[] 2)).cell? ⟨b, off + j, none⟩ = some u) := by
    intro j u hu
    rw [List.getElem?_map] at hu
    cases hx : ws[j]? with
    | none => rw [hx] at hu; cases hu
    | some x =>
      rw [hx] at hu
      simp at hu
      obtain ⟨ao, c, he, hh⟩ := sl_open HWA.out
      simp only [Value.slice.injEq] at he
      obtain ⟨rfl, _, _⟩ := he
      obtain ⟨b, off, u2, h1, h2, h3⟩ := hh j x hx
      rw [h3, hu] at h2
      exact ⟨b, off, h1, h2⟩
  go_enter Try.func8, Try.ntmps8
  go_upto_region 2 with (at_builtin; refine append_in rfl _ _ 22 rfl w.heap.size 2 i0 (.int .i64 0) 8 Try.underlying22 hi0 hz0 hz1 hz2 rfl (.slice (some ⟨w.heap.size, 0, none⟩) 0 0) 0 [] rfl HEMP.out wa ln wc (ws.map (.int .i64)) rfl (by rw [List.length_map]; exact HLN.out) HNW.out HOC.out (by unfold maxLen; omega) (by omega) HGA.out.size ?_; intro v1 w1 ho1 hg1 hb1; obtain ⟨sa1, cap1, rfl⟩ := own_slice ho1)
  have HG1 : Hid (w.grownBy w1 none) := grown_own HGA.out HEMP.out (Nat.le_refl _) hg1
  have HO1 : Hid (w1.ownsRow w.heap.size 2 1 (.slice sa1 ln cap1) ln (ws.map (.int .i64))) := by
    have h := ho1
    rw [List.nil_append, Nat.zero_add] at h
    exact h
  clear ho1 hg1 hb1 HOC HNW HEMP HGA HWA
  have HPR1 : Hid (∀ x, w1.heap.size ≤ x → PR w.heap.size w1 (.slice sa1 ln cap1) (.slice none 0 0) (.slice none 0 0) x ln ⟨[], false⟩ ⟨ws, -1⟩ []) := fun x hx => pr_start HO1.out hx
  have hcap : ln ≤ cap1 := by
    rcases HO1.out.2 with ⟨h, h0⟩ | ⟨g, cap, cur, hv, _, _, hnc, _⟩
    · omega
    · simp only [Value.slice.injEq] at hv
      rw [hv.2.2]
      exact hnc
  have LC := Lib.hid (lies_calls sa1 cap1 ws w1 (by have h := (HPR1.out _ (Nat.le_refl _)).ils; rw [HLN.out]; exact h) (by rw [HLN.out]; exact hcap) (by rw [HLN.out]; exact hwb))
  rw [HLN.out] at LC
  obtain ⟨LW, hLW⟩ : ∃ LW, liesR ws = LW := ⟨_, rfl⟩
  have HLOK : Hid (Okay LW) := by unfold Hid; rw [← hLW]; exact lies_okay ws 1024 [] okay_nil
  have hLB : LW.length ≤ 1024 := by rw [← hLW]; exact lies_len ws 1024 [] (by simp)
  rw [hLW] at LC HRR
  obtain ⟨lw, hlw⟩ : ∃ lw, LW.length = lw := ⟨_, rfl⟩
  have HLWL := Lib.hid hlw
  rw [hlw] at LC hLB
  clear hLW hlw HO1
  go_upto_region 4 with (go_at_call 17; refine (LC.out).mono ?_; rintro ez w3 ⟨na0, nc0, rfl, hn3, hg3⟩)
  obtain ⟨w3, rfl⟩ : ∃ w3' : World, w3' = w3 := ⟨_, rfl⟩
  have HG3 : Hid (w.grownBy w3 none) := grown_trans HG1.out hg3.out
  have HPR3 : Hid (∀ x, w3.heap.size ≤ x → PR w.heap.size w3 (.slice sa1 ln cap1) (.slice none 0 0) (.slice na0 lw nc0) x ln ⟨LW, false⟩ ⟨ws, -1⟩ []) := fun x hx => (HPR1.out x (Nat.le_trans hg3.out.size hx)).edits hg3.out (.inr hx) (Nat.le_refl _) hn3.out HLWL.out HLOK.out hLB false
  have HR0 : Hid (RR = (([] : List (Tn × Value)).map Prod.fst ++ (runR ⟨LW, false⟩ ⟨ws, -1⟩ (ps.drop 0)).1, (runR ⟨LW, false⟩ ⟨ws, -1⟩ (ps.drop 0)).2)) := HRR.out.symm
  clear hg3 hn3 LC HPR1 HRR
  go_wp2_with fail
  go_loopw [7, 8, 9, 10, 27] (fun v7 v8 v9 v10 v27 wr => ∃ (k : Nat) (t : Rs) (d : Dk) (ys : List (Tn × Value)) (oa : Option Addr) (oc : Nat) (na : Option Addr) (m nc : Nat), k ≤ n ∧ v7 = .int .i64 d.left ∧ v8 = .bool t.broken ∧ v9 = .slice na m nc ∧ v10 = .slice oa k oc ∧ v27 = .int .i64 (k : Int) ∧ Hid (t.done.length = m) ∧ Hid (ys.length = k) ∧ Hid (RR = (ys.map Prod.fst ++ (runR t d (ps.drop k)).1, (runR t d (ps.drop k)).2)) ∧ Hid (∀ x, wr.heap.size ≤ x → PR w.heap.size wr (.slice sa1 ln cap1) (.slice oa k oc) (.slice na m nc) x ln t d ys) ∧ Hid (w.grownBy wr none)) (fun _ _ _ _ v27 _ => n - (intOf v27).toNat)
  case atStart => exact ⟨0, ⟨LW, false⟩, ⟨ws, -1⟩, [], none, 0, na0, lw, nc0, Nat.zero_le _, rfl, rfl, rfl, rfl, rfl, HLWL.out, rfl, HR0.out, HPR3.out, HG3.out⟩
  case round =>
    obtain ⟨k, t, d, ys, oa, oc, na, m, nc, hk, rfl, rfl, rfl, rfl, rfl, HML, HYL, HR, HPR, HG⟩ := hrel
    obtain ⟨wz, hwz⟩ : ∃ wz : World, wz = wr := ⟨_, rfl⟩
    subst hwz
    clear HR0 HPR3 HG3
    by_cases hkn : k = n
    · have HF : Hid (RR = (ys.map Prod.fst, d)) := by
        unfold Hid
        rw [HR.out, List.drop_of_length_le (by rw [HN.out]; omega), runR_nil, List.append_nil]
      have hk2 := hkn.symm
      subst hk2
      clear hkn
      go_wp2_with fail
      go_ret2
      have hpr := HPR.out _ (Nat.le_refl _)
      refine ⟨_, _, _, ys, rfl, by unfold Hid; rw [HF.out], ⟨hpr.out.own, fun y hy => SlA.mono (hpr.out.ts y hy) (fun _ _ => trivial), hpr.out.sl⟩, ?_, HG.out⟩
      rw [HF.out]
      exact hpr.ils
    have hkl : (k : Int) < (n : Int) := by omega
    obtain ⟨p, hp⟩ : ∃ p, ps[k]? = some p := ⟨ps[k]'(by rw [HN.out]; omega), List.getElem?_eq_getElem _⟩
    obtain ⟨b, off, rfl, _, hrg⟩ := sla_at HP.out hp
    have HRK : Hid (RR = (ys.map Prod.fst ++ ((stepR t d p).2.2 :: (runR (stepR t d p).1 (stepR t d p).2.1 (ps.drop (k + 1))).1), (runR (stepR t d p).1 (stepR t d p).2.1 (ps.drop (k + 1))).2)) := by
      unfold Hid
      obtain ⟨hi, he⟩ := List.getElem?_eq_some_iff.1 hp
      rw [HR.out, List.drop_eq_getElem_cons hi, he, runR_cons]
    clear HR hp
    obtain ⟨OP, ⟨D, N, ⟨ta, tl, tt, tal, to_⟩⟩, PW, PK, WD⟩ := p
    have e0 : wz.cell? ⟨b, off + k * 11, none⟩ = some (.bool OP) := grown_cell HG.out (hrg 0 _ rfl) (by simp)
    have e1 : wz.cell? ⟨b, off + k * 11 + 1, none⟩ = some (.int .i64 D) := grown_cell HG.out (hrg 1 _ rfl) (by simp)
    have e2 : wz.cell? ⟨b, off + k * 11 + 2, none⟩ = some (.int .i64 N) := grown_cell HG.out (hrg 2 _ rfl) (by simp)
    have e3 : wz.cell? ⟨b, off + k * 11 + 3, none⟩ = some (.int .i64 ta) := grown_cell HG.out (hrg 3 _ rfl) (by simp)
    have e4 : wz.cell? ⟨b, off + k * 11 + 4, none⟩ = some (.int .i64 tl) := grown_cell HG.out (hrg 4 _ rfl) (by simp)
    have e5 : wz.cell? ⟨b, off + k * 11 + 5, none⟩ = some (.int .i64 tt) := grown_cell HG.out (hrg 5 _ rfl) (by simp)
    have e6 : wz.cell? ⟨b, off + k * 11 + 6, none⟩ = some (.int .i64 tal) := grown_cell HG.out (hrg 6 _ rfl) (by simp)
    have e7 : wz.cell? ⟨b, off + k * 11 + 7, none⟩ = some (.int .i64 to_) := grown_cell HG.out (hrg 7 _ rfl) (by simp)
    have e8 : wz.cell? ⟨b, off + k * 11 + 8, none⟩ = some (.int .i64 PW) := grown_cell HG.out (hrg 8 _ rfl) (by simp)
    have e9 : wz.cell? ⟨b, off + k * 11 + 9, none⟩ = some (.int .i64 PK) := grown_cell HG.out (hrg 9 _ rfl) (by simp)
    have e10 : wz.cell? ⟨b, off + k * 11 + 10, none⟩ = some (.int .i64 WD) := grown_cell HG.out (hrg 10 _ rfl) (by simp)
    clear hrg
    go_upto_region 9 with fail
    obtain ⟨sb, hsb⟩ : ∃ sb, wz.heap.size = sb := ⟨_, rfl⟩
    have HSB := Lib.hid hsb
    obtain ⟨xb, hxb⟩ : ∃ xb, sb + 1 = xb := ⟨_, rfl⟩
    have HXB := Lib.hid hxb
    clear hsb hxb
    simp only [HSB.out, HXB.out]
    obtain ⟨w4, hw4⟩ : ∃ w4, (wz.alloc (.cells #[.bool OP, .int .i64 D, .int .i64 N, .int .i64 ta, .int .i64 tl, .int .i64 tt, .int .i64 tal, .int .i64 to_, .int .i64 PW, .int .i64 PK, .int .i64 WD] 44)).alloc (.cells #[.int .i64 0, .int .i64 0, .slice none 0 0] 32) = w4 := ⟨_, rfl⟩
    have HG4 : Hid (wz.grownBy w4 none) := by unfold Hid; rw [← hw4]; exact grown_alloc (grown_alloc (grown_refl _ _) _) _
    have HS4 : Hid (w4.heap[sb]? = some (.cells #[.bool OP, .int .i64 D, .int .i64 N, .int .i64 ta, .int .i64 tl, .int .i64 tt, .int .i64 tal, .int .i64 to_, .int .i64 PW, .int .i64 PK, .int .i64 WD] 44 (0, 0))) := by
      unfold Hid
      rw [← hw4]
      exact row_kept (grown_alloc (grown_refl (wz.alloc (.cells #[.bool OP, .int .i64 D, .int .i64 N, .int .i64 ta, .int .i64 tl, .int .i64 tt, .int .i64 tal, .int .i64 to_, .int .i64 PW, .int .i64 PK, .int .i64 WD] 44)) none) _) (by rw [← HSB.out]; exact heap_alloc_new _ _) (by simp)
    have HX4 : Hid (w4.heap[xb]? = some (.cells #[.int .i64 0, .int .i64 0, .slice none 0 0] 32 (0, 0))) := by
      have hz : (wz.alloc (.cells #[.bool OP, .int .i64 D, .int .i64 N, .int .i64 ta, .int .i64 tl, .int .i64 tt, .int .i64 tal, .int .i64 to_, .int .i64 PW, .int .i64 PK, .int .i64 WD] 44)).heap.size = xb := by rw [← HXB.out, ← HSB.out]; simp
      unfold Hid
      rw [← hw4, ← hz]
      exact heap_alloc_new _ _
    simp only [hw4]
    clear hw4 e0 e1 e2 e3 e4 e5 e6 e7 e8 e9 e10
    have HP4 : Hid (PR w.heap.size w4 (.slice sa1 ln cap1) (.slice oa k oc) (.slice na m nc) xb ln t d ys) := (HPR.out xb (by have h1 := HSB.out; have h2 := HXB.out; unfold Hid at h1 h2; omega)).grown HG4.out
    have HGW4 : Hid (w.grownBy w4 none) := grown_trans HG.out HG4.out
    have HWZ : Hid (w.heap.size ≤ wz.heap.size) := HG.out.size
    have hdsb : Hid ((Value.slice sa1 ln cap1).ownBlock ≠ some sb) := fun e => by
      have h1 := (own_base (HPR.out _ (Nat.le_refl _)).words e).2
      have h2 := HSB.out
      unfold Hid at h2
      omega
    have HDWL : Hid (d.words.length = ln) := HP4.out.len
    clear HPR HG
    obtain ⟨L1, hL1⟩ : ∃ L1, (if PW ≠ 0 then IntKind.i64.wrap (PW - 1) else d.left) = L1 := ⟨_, rfl⟩
    have HL1 := Lib.hid hL1
    clear hL1
    have s2 := cell_of HS4.out 8
    go_upto_if 33 with fail
    go_cut [7] from 28 to 135 (fun v7 wx => v7 = .int .i64 L1 ∧ w4 = wx)
    case first =>
      by_cases hp : PW = 0
      · have HE : Hid (L1 = d.left) := by unfold Hid; rw [← HL1.out, if_neg (by simp [hp])]
        subst hp
        go_wp2_with fail
        go_meet
        exact ⟨by rw [HE.out], rfl⟩
      · have HE : Hid (L1 = IntKind.i64.wrap (PW - 1)) := by unfold Hid; rw [← HL1.out, if_pos hp]
        go_wp2_with fail
        go_meet
        exact ⟨by rw [HE.out] <;> simp [wrap_eq64], rfl⟩
    obtain ⟨rfl, hwc⟩ := hcut
    subst hwc
    have HP5 : Hid (PR w.heap.size w4 (.slice sa1 ln cap1) (.slice oa k oc) (.slice na m nc) xb ln t ⟨d.words, L1⟩ ys) := HP4.out.power (by
      have h := HL1.out
      unfold Hid at h
      rw [← h]
      split
      · exact wrap64_range _
      · exact HP4.out.left)
    clear s2 HP4
    obtain ⟨d2, hd2⟩ : ∃ d2 : Dk, (if 0 < PK ∧ PK ≤ (ln : Int) then (⟨d.words.set (PK - 1).toNat WD, L1⟩ : Dk) else ⟨d.words, L1⟩) = d2 := ⟨_, rfl⟩
    have HD2 := Lib.hid hd2
    clear hd2
    have s3 := cell_of HS4.out 9
    have s4 := cell_of HS4.out 10
    go_upto_region 11 with fail
    go_cut [46] from 28 to 135 (fun c wx => c = .bool (decide (0 < PK ∧ PK ≤ (ln : Int))) ∧ w4 = wx)
    case first =>
      by_cases hp : 0 < PK
      rotate_left
      · have hpb : decide (0 < PK) = false := decide_eq_false hp
        go_wp2_with fail
        go_meet
        exact ⟨congrArg Value.bool (decide_eq_false (fun h => absurd h.1 (by omega))).symm, rfl⟩
      have hpb : decide (0 < PK) = true := decide_eq_true hp
      by_cases hq : PK ≤ (ln : Int)
      · have hqb : decide (PK ≤ (ln : Int)) = true := decide_eq_true hq
        go_wp2_with fail
        go_meet
        exact ⟨congrArg Value.bool (decide_eq_true (p := 0 < PK ∧ PK ≤ (ln : Int)) ⟨hp, hq⟩).symm, rfl⟩
      · have hqb : decide (PK ≤ (ln : Int)) = false := decide_eq_false hq
        go_wp2_with fail
        go_meet
        exact ⟨congrArg Value.bool (decide_eq_false (fun h => absurd h.2 (by omega))).symm, rfl⟩
    obtain ⟨rfl, hwc⟩ := hcut
    subst hwc
    go_upto_if 46 with fail
    go_cut [46] from 28 to 135 (fun c wx => Hid (PR w.heap.size wx (.slice sa1 ln cap1) (.slice oa k oc) (.slice na m nc) xb ln t d2 ys) ∧ Hid (wx.heap[sb]? = some (.cells #[.bool OP, .int .i64 D, .int .i64 N, .int .i64 ta, .int .i64 tl, .int .i64 tt, .int .i64 tal, .int .i64 to_, .int .i64 PW, .int .i64 PK, .int .i64 WD] 44 (0, 0))) ∧ Hid (wx.heap[xb]? = some (.cells #[.int .i64 0, .int .i64 0, .slice none 0 0] 32 (0, 0))) ∧ Hid (w.grownBy wx none) ∧ Hid (w4.heap.size = wx.heap.size))
    case first =>
      by_cases hpq : 0 < PK ∧ PK ≤ (ln : Int)
      rotate_left
      · have HE : Hid (d2 = ⟨d.words, L1⟩) := by unfold Hid; rw [← HD2.out, if_neg hpq]
        have hpb : decide (0 < PK ∧ PK ≤ (ln : Int)) = false := decide_eq_false hpq
        simp only [hpb]
        go_wp2_with fail
        go_meet
        exact ⟨by rw [HE.out]; exact HP5.out, HS4.out, HX4.out, HGW4.out, rfl⟩
      have hpb : decide (0 < PK ∧ PK ≤ (ln : Int)) = true := decide_eq_true hpq
      simp only [hpb]
      obtain ⟨hp, hq⟩ := hpq
      obtain ⟨q, hq1⟩ : ∃ q : Nat, PK = (q : Int) + 1 := ⟨(PK - 1).toNat, by omega⟩
      have HE : Hid (d2 = ⟨d.words.set q WD, L1⟩) := by
        unfold Hid
        rw [← HD2.out, if_pos ⟨hp, hq⟩, show (PK - 1).toNat = q from by omega]
      have hql : q < ln := by omega
      have hqli : (q : Int) < (ln : Int) := by omega
      have hwq : IntKind.i64.wrap (PK - 1) = (q : Int) := by rw [IntWalk.i64_in _ (by omega)]; omega
      clear hq1 hpb hp hq
      obtain ⟨g, cur, rfl, hgB, hgg, hgc, _, hgs, _⟩ := HP5.out.row rfl (by omega)
      have hcs : q < cur.size := by omega
      have c0 : w4.cell? ⟨g, q, none⟩ = some (cur[q]'hcs) := (cell_of hgg q).trans (Array.getElem?_eq_getElem hcs)
      have z0 := free_of hgg q
      have hgsb : g ≠ sb := fun e => hdsb.out (by rw [← e]; rfl)
      have hgxb : g ≠ xb := fun e => HP5.out.nx.1 (by rw [← e]; rfl)
      have HPN : Hid (PR w.heap.size (w4.setCell ⟨g, q, none⟩ (.int .i64 WD)) (.slice (some ⟨g, 0, none⟩) ln cap1) (.slice oa k oc) (.slice na m nc) xb ln t ⟨d.words.set q WD, L1⟩ ys) := HP5.out.put rfl hql WD
      have HSN : Hid ((w4.setCell ⟨g, q, none⟩ (.int .i64 WD)).heap[sb]? = some (.cells #[.bool OP, .int .i64 D, .int .i64 N, .int .i64 ta, .int .i64 tl, .int .i64 tt, .int .i64 tal, .int .i64 to_, .int .i64 PW, .int .i64 PK, .int .i64 WD] 44 (0, 0))) := by unfold Hid; rw [set_other (by exact fun e => hgsb e.symm)]; exact HS4.out
      have HXN : Hid ((w4.setCell ⟨g, q, none⟩ (.int .i64 WD)).heap[xb]? = some (.cells #[.int .i64 0, .int .i64 0, .slice none 0 0] 32 (0, 0))) := by unfold Hid; rw [set_other (by exact fun e => hgxb e.symm)]; exact HX4.out
      have HGN : Hid (w.grownBy (w4.setCell ⟨g, q, none⟩ (.int .i64 WD)) none) := grown_set HGW4.out (.inr hgB) _
      clear hgg
      go_wp2_with fail
      go_meet
      exact ⟨by rw [HE.out]; exact HPN.out, HSN.out, HXN.out, HGN.out, by unfold Hid; rw [size_set]⟩
    obtain ⟨HP6, HS6, HX6, HG6, HZ6⟩ := hcut
    obtain ⟨w6, hw6⟩ : ∃ w6 : World, w6 = wc := ⟨_, rfl⟩
    subst hw6
    clear s3 s4 HP5 HS4 HX4
    have s5 := cell_of HS6.out 0
    obtain ⟨t1, ht1⟩ : ∃ t1 : Rs, (if OP = true then (⟨liesR d2.words, false⟩ : Rs) else t) = t1 := ⟨_, rfl⟩
    have HT1 := Lib.hid ht1
    clear ht1
    obtain ⟨m1, hm1⟩ : ∃ m1, t1.done.length = m1 := ⟨_, rfl⟩
    have HM1 := Lib.hid hm1
    clear hm1
    have hxl6 : xb < w6.heap.size := lt_of HX6.out
    go_upto_if 55 with fail
    go_cut [8, 9] from 28 to 135 (fun v8 v9 wx => ∃ na1 nc1, v8 = .bool t1.broken ∧ v9 = .slice na1 m1 nc1 ∧ Hid (PR w.heap.size wx (.slice sa1 ln cap1) (.slice oa k oc) (.slice na1 m1 nc1) xb ln t1 d2 ys) ∧ Hid (wx.heap[sb]? = some (.cells #[.bool OP, .int .i64 D, .int .i64 N, .int .i64 ta, .int .i64 tl, .int .i64 tt, .int .i64 tal, .int .i64 to_, .int .i64 PW, .int .i64 PK, .int .i64 WD] 44 (0, 0))) ∧ Hid (wx.heap[xb]? = some (.cells #[.int .i64 0, .int .i64 0, .slice none 0 0] 32 (0, 0))) ∧ Hid (w.grownBy wx none))
    case first =>
      cases OP with
      | false =>
        have HE : Hid (t1 = t) := HT1.out.symm
        have HE2 : Hid (m = m1) := by unfold Hid; rw [← HM1.out, HE.out]; exact HML.out.symm
        have he2 := HE2.out
        subst he2
        go_wp2_with fail
        go_meet
        exact ⟨na, nc, by rw [HE.out], rfl, by rw [HE.out]; exact HP6.out, HS6.out, HX6.out, HG6.out⟩
      | true =>
        have HE : Hid (t1 = ⟨liesR d2.words, false⟩) := HT1.out.symm
        have hdl : d2.words.length = ln := HP6.out.len
        have HLL : Hid ((liesR d2.words).length = m1) := by unfold Hid; rw [← HM1.out, HE.out]
        have LC := Lib.hid (lies_calls sa1 cap1 d2.words w6 (by rw [hdl]; exact HP6.out.ils) (by rw [hdl]; exact hcap) (by rw [hdl]; exact hwb))
        rw [hdl, HLL.out] at LC
        clear hdl
        go_wp2_with (go_at_call 17; refine (LC.out).mono ?_; rintro ez w7 ⟨na1, nc1, rfl, hn7, hg7⟩)
        go_meet
        refine ⟨na1, nc1, by rw [HE.out], rfl, ?_, row_kept hg7.out HS6.out (by simp), row_kept hg7.out HX6.out (by simp), grown_trans HG6.out hg7.out⟩
        rw [HE.out]
        exact HP6.out.edits hg7.out (.inl hxl6) (Nat.le_refl _) hn7.out HLL.out (lies_okay d2.words 1024 [] okay_nil) (by rw [← HLL.out]; exact lies_len d2.words 1024 [] (by simp)) false
    obtain ⟨na1, nc1, rfl, rfl, HP7, HS7, HX7, HG7⟩ := hcut
    obtain ⟨w7, hw7⟩ : ∃ w7 : World, w7 = wc := ⟨_, rfl⟩
    subst hw7
    clear s5 HP6 HS6 HX6 HG6 HZ6 hxl6
    obtain ⟨RD, hRD⟩ : ∃ RD, (if D ≠ 0 then doR t1 d2 ⟨D, N, ⟨ta, tl, tt, tal, to_⟩⟩ else (t1, d2, 0)) = RD := ⟨_, rfl⟩
    have HRD := Lib.hid hRD
    clear hRD
    obtain ⟨t2, d3, er⟩ := RD
    obtain ⟨m2, hm2⟩ : ∃ m2, t2.done.length = m2 := ⟨_, rfl⟩
    have HM2 := Lib.hid hm2
    clear hm2
    have HD2L : Hid (d2.left = L1) := by
      unfold Hid
      rw [← HD2.out]
      split <;> rfl
    have s1 : w7.cell? ⟨sb, 1, none⟩ = some (.int .i64 D) := cell_of HS7.out 1
    have hsx : sb ≠ xb := by have h := HXB.out; unfold Hid at h; omega
    obtain ⟨BD, hBD⟩ : ∃ BD, decide (D ≠ 0) = BD := ⟨_, rfl⟩
    have HBD := Lib.hid hBD
    clear hBD
    go_upto_region 15 with fail
    go_cut [61] from 28 to 135 (fun c wx => c = .bool BD ∧ w7 = wx)
    case first =>
      by_cases hD0 : D = 0
      · have HB : Hid (BD = false) := by unfold Hid; rw [← HBD.out]; simp [hD0]
        subst hD0
        go_wp2_with fail
        go_meet
        exact ⟨by rw [HB.out], rfl⟩
      · have HB : Hid (BD = true) := by unfold Hid; rw [← HBD.out]; simp [hD0]
        have hb : (D != 0) = true := by simp [hD0]
        go_wp2_with fail
        go_meet
        exact ⟨by rw [HB.out], rfl⟩
    obtain ⟨rfl, hwc⟩ := hcut
    subst hwc
    go_upto_if 61 with fail
    go_cut [7, 8, 9, 14, 15, 16, 17, 18, 19] from 28 to 135 (fun v7 v8 v9 x14 x15 x16 x17 x18 x19 wx => ∃ na2 nc2, v7 = .int .i64 d3.left ∧ v8 = .bool t2.broken ∧ v9 = .slice na2 m2 nc2 ∧ Hid (PR w.heap.size wx (.slice sa1 ln cap1) (.slice oa k oc) (.slice na2 m2 nc2) xb ln t2 d3 ys) ∧ Hid (wx.heap[xb]? = some (.cells #[.int .i64 er, .int .i64 0, .slice none 0 0] 32 (0, 0))) ∧ Hid (w.grownBy wx none))
    case first =>
      cases BD with
      | false =>
        have HE : Hid ((t1, d2, (0 : Int)) = (t2, d3, er)) := by
          unfold Hid
          have h := of_decide_eq_false HBD.out
          rw [← HRD.out, if_neg h]
        have hE := HE.out
        simp only [Prod.mk.injEq] at hE
        obtain ⟨rfl, rfl, rfl⟩ := hE
        have HMM : Hid (m2 = m1) := by unfold Hid; rw [← HM2.out, ← HM1.out]
        clear s1
        go_wp2_with fail
        go_meet
        exact ⟨na1, nc1, by rw [HD2L.out], rfl, by rw [HMM.out], by rw [HMM.out]; exact HP7.out, HX7.out, HG7.out⟩
      | true =>
        have HE : Hid (doR t1 d2 ⟨D, N, ⟨ta, tl, tt, tal, to_⟩⟩ = (t2, d3, er)) := by
          unfold Hid
          have h := of_decide_eq_true HBD.out
          rw [← HRD.out, if_pos h]
        have s1 : w7.cell? ⟨sb, 1, none⟩ = some (.int .i64 D) := cell_of HS7.out 1
        have s2 : w7.cell? ⟨sb, 2, none⟩ = some (.int .i64 N) := cell_of HS7.out 2
        have s3 : w7.cell? ⟨sb, 3, none⟩ = some (.int .i64 ta) := cell_of HS7.out 3
        have s4 : w7.cell? ⟨sb, 4, none⟩ = some (.int .i64 tl) := cell_of HS7.out 4
        have s5 : w7.cell? ⟨sb, 5, none⟩ = some (.int .i64 tt) := cell_of HS7.out 5
        have s6 : w7.cell? ⟨sb, 6, none⟩ = some (.int .i64 tal) := cell_of HS7.out 6
        have s7 : w7.cell? ⟨sb, 7, none⟩ = some (.int .i64 to_) := cell_of HS7.out 7
        have PC := Lib.hid (rplain_calls ⟨D, N, ⟨ta, tl, tt, tal, to_⟩⟩ w7)
        have HDO : Hid (doR t1 d2 ⟨D, N, ⟨ta, tl, tt, tal, to_⟩⟩ = if t1.broken = true then (t1, d2, 9) else if mayR t1.done (plainE ⟨D, N, ⟨ta, tl, tt, tal, to_⟩⟩) ≠ 0 then (t1, d2, mayR t1.done (plainE ⟨D, N, ⟨ta, tl, tt, tal, to_⟩⟩)) else if 1024 ≤ t1.done.length ∨ d2.words.length < 8 * t1.done.length + 8 then (t1, d2, 4) else if (putsR d2 (8 * t1.done.length) 0 (recL (plainE ⟨D, N, ⟨ta, tl, tt, tal, to_⟩⟩))).2 = true then (⟨t1.done ++ [plainE ⟨D, N, ⟨ta, tl, tt, tal, to_⟩⟩], false⟩, (putsR d2 (8 * t1.done.length) 0 (recL (plainE ⟨D, N, ⟨ta, tl, tt, tal, to_⟩⟩))).1, 0) else (⟨t1.done, true⟩, (putsR d2 (8 * t1.done.length) 0 (recL (plainE ⟨D, N, ⟨ta, tl, tt, tal, to_⟩⟩))).1, 11)) := rfl
        rw [HE.out, HM1.out, HP7.out.len] at HDO
        obtain ⟨⟨pd, pn, ⟨pa, pl, pt, pal, po⟩⟩, hpe⟩ : ∃ E, plainE ⟨D, N, ⟨ta, tl, tt, tal, to_⟩⟩ = E := ⟨_, rfl⟩
        rw [hpe] at HDO
        simp only [hpe] at PC
        clear hpe HE HRD
        go_upto_region 17 with (go_at_call 18; refine (PC.out).mono ?_; rintro ez w8 ⟨rfl, hg8⟩)
        obtain ⟨eb, heb⟩ : ∃ eb, w8.heap.size = eb := ⟨_, rfl⟩
        have HEB := Lib.hid heb
        clear heb
        simp only [HEB.out]
        obtain ⟨w9, hw9⟩ : ∃ w9, w8.alloc (.cells #[.int .i64 pd, .int .i64 pn, .int .i64 pa, .int .i64 pl, .int .i64 pt, .int .i64 pal, .int .i64 po] 40) = w9 := ⟨_, rfl⟩
        have HG79 : Hid (w7.grownBy w9 none) := by unfold Hid; rw [← hw9]; exact grown_alloc hg8.out _
        have HE9 : Hid (w9.heap[eb]? = some (.cells #[.int .i64 pd, .int .i64 pn, .int .i64 pa, .int .i64 pl, .int .i64 pt, .int .i64 pal, .int .i64 po] 40 (0, 0))) := by unfold Hid; rw [← hw9, ← HEB.out]; exact heap_alloc_new _ _
        simp only [hw9]
        have hxe : xb < eb := by have h1 := lt_of HX7.out; have h2 := hg8.out.size; have h3 := HEB.out; unfold Hid at h3; omega
        have HG7X : Hid (w7.heap.size ≤ eb) := by unfold Hid; rw [← HEB.out]; exact hg8.out.size
        clear hw9 hg8 s1 s2 s3 s4 s5 s6 s7
        have HX9 := Lib.hid (row_kept HG79.out HX7.out (by simp))
        have HP9 := Lib.hid (HP7.out.grown HG79.out)
        have HG9 : Hid (w.grownBy w9 none) := grown_trans HG7.out HG79.out
        have HDONE : Hid (∀ (wx : World) (er' : Int) (h : (t2, d3, er) = (t1, d2, er')) (hp : PR w.heap.size wx (.slice sa1 ln cap1) (.slice oa k oc) (.slice na1 m1 nc1) xb ln t1 d2 ys) (hx : wx.heap[xb]? = some (.cells #[.int .i64 0, .int .i64 0, .slice none 0 0] 32 (0, 0))) (hg : w.grownBy wx none), ∃ na2 nc2, Value.int .i64 L1 = .int .i64 d3.left ∧ Value.bool t1.broken = .bool t2.broken ∧ Value.slice na1 m1 nc1 = .slice na2 m2 nc2 ∧ Hid (PR w.heap.size (wx.setCell ⟨xb, 0, none⟩ (.int .i64 er')) (.slice sa1 ln cap1) (.slice oa k oc) (.slice na2 m2 nc2) xb ln t2 d3 ys) ∧ Hid ((wx.setCell ⟨xb, 0, none⟩ (.int .i64 er')).heap[xb]? = some (.cells #[.int .i64 er, .int .i64 0, .slice none 0 0] 32 (0, 0))) ∧ Hid (w.grownBy (wx.setCell ⟨xb, 0, none⟩ (.int .i64 er')) none)) := by
          intro wx er' h hp hx hg
          simp only [Prod.mk.injEq] at h
          obtain ⟨rfl, rfl, rfl⟩ := h
          have hmm : m2 = m1 := by have h1 := HM2.out; have h2 := HM1.out; unfold Hid at h1 h2; omega
          subst hmm
          refine ⟨na1, nc1, by rw [HD2L.out], rfl, rfl, hp.setx 0 _, set_self hx _, grown_set hg (.inr ?_) _⟩
          have h1 := HSB.out
          have h2 := HXB.out
          have h3 := HGW4.out.size
          have h4 := HWZ.out
          unfold Hid at h1 h2 h4
          show w.heap.size ≤ xb
          omega
        obtain ⟨tb, htb⟩ : ∃ tb, t1.broken = tb := ⟨_, rfl⟩
        have HTB := Lib.hid htb
        rw [htb] at HDO
        simp only [htb] at HDONE ⊢
        clear htb
        cases tb with
        | true =>
          rw [if_pos rfl] at HDO
          have x0 := cell_of HX9.out 0
          have zx0 := free_of HX9.out 0
          go_wp2_with fail
          go_meet
          exact HDONE.out _ 9 HDO.out HP9.out HX9.out HG9.out
        | false =>
        rw [if_neg (by simp)] at HDO
        have hpn := HP9.out.dn
        have MC := Lib.hid (may_calls na1 nc1 t1.done ⟨pd, pn, ⟨pa, pl, pt, pal, po⟩⟩ w9 (by rw [HM1.out]; exact hpn.mono (fun _ _ => trivial)) HP9.out.okay HP9.out.few)
        rw [HM1.out] at MC
        obtain ⟨M, hM⟩ : ∃ M, mayR t1.done ⟨pd, pn, ⟨pa, pl, pt, pal, po⟩⟩ = M := ⟨_, rfl⟩
        have HMM := Lib.hid hM
        simp only [hM] at MC
        rw [hM] at HDO
        clear hM hpn
        have p0 : w9.cell? ⟨eb, 0, none⟩ = some (.int .i64 pd) := cell_of HE9.out 0
        have p1 : w9.cell? ⟨eb, 1, none⟩ = some (.int .i64 pn) := cell_of HE9.out 1
        have p2 : w9.cell? ⟨eb, 2, none⟩ = some (.int .i64 pa) := cell_of HE9.out 2
        have p3 : w9.cell? ⟨eb, 3, none⟩ = some (.int .i64 pl) := cell_of HE9.out 3
        have p4 : w9.cell? ⟨eb, 4, none⟩ = some (.int .i64 pt) := cell_of HE9.out 4
        have p5 : w9.cell? ⟨eb, 5, none⟩ = some (.int .i64 pal) := cell_of HE9.out 5
        have p6 : w9.cell? ⟨eb, 6, none⟩ = some (.int .i64 po) := cell_of HE9.out 6
        go_upto_region 20 with (go_at_call 19; refine (MC.out).mono ?_; rintro ez w10 ⟨rfl, hg10⟩)
        obtain ⟨w10, rfl⟩ : ∃ w10' : World, w10' = w10 := ⟨_, rfl⟩
        clear p0 p1 p2 p3 p4 p5 p6
        have HX10 := Lib.hid (row_kept hg10.out HX9.out (by simp))
        have HE10 := Lib.hid (row_kept hg10.out HE9.out (by simp))
        have HP10 := Lib.hid (HP9.out.grown hg10.out)
        have HG10 : Hid (w.grownBy w10 none) := grown_trans HG9.out hg10.out
        clear hg10 HX9 HE9 HP9 HG9
        have x0 := cell_of HX10.out 0
        have zx0 := free_of HX10.out 0
        by_cases hM0 : M = 0
        rotate_left
        · rw [if_pos hM0] at HDO
          have hMb : (M != 0) = true := by simpa using hM0
          go_wp2_with fail
          go_meet
          exact HDONE.out _ M HDO.out HP10.out HX10.out HG10.out
        rw [if_neg (by simp [hM0])] at HDO
        subst hM0
        have hm1k : m1 ≤ 1024 := by have h := HP10.out.few; rw [HM1.out] at h; exact h
        obtain ⟨A, hA⟩ : ∃ A, 8 * m1 = A := ⟨_, rfl⟩
        obtain ⟨A8, hA8⟩ : ∃ A8, A + 8 = A8 := ⟨_, rfl⟩
        rw [hA, hA8] at HDO
        have hwA : IntKind.i64.wrap (8 * (m1 : Int)) = (A : Int) := by rw [IntWalk.i64_in _ (by omega)]; omega
        have hwA8 : IntKind.i64.wrap ((A : Int) + 8) = (A8 : Int) := by rw [IntWalk.i64_in _ (by omega)]; omega
        by_cases hfull : 1024 ≤ m1
        · rw [if_pos (.inl hfull)] at HDO
          have hfb : decide ((1024 : Int) ≤ (m1 : Int)) = true := decide_eq_true (by omega)
          go_wp2_with fail
          go_meet
          exact HDONE.out _ 4 HDO.out HP10.out HX10.out HG10.out
        have hfb : decide ((1024 : Int) ≤ (m1 : Int)) = false := decide_eq_false (by omega)
        by_cases hroom : ln < A8
        · rw [if_pos (.inr hroom)] at HDO
          have hrb : decide ((ln : Int) < (A8 : Int)) = true := decide_eq_true (by omega)
          have hri : (ln : Int) < (A8 : Int) := by omega
          go_wp2_with fail
          go_meet
          exact HDONE.out _ 4 HDO.out HP10.out HX10.out HG10.out
        rw [if_neg (by omega)] at HDO
        have hrb : decide ((ln : Int) < (A8 : Int)) = false := decide_eq_false (by omega)
        have hri : ¬ (ln : Int) < (A8 : Int) := by omega
        have hAl : A + 8 ≤ ln := by omega
        clear hA hA8
        go_upto_region 25 with fail
        obtain ⟨r0, hr0⟩ : ∃ r0, w10.heap.size = r0 := ⟨_, rfl⟩
        have HR0B := Lib.hid hr0
        clear hr0
        have HGA : Hid (w10.grownBy (w10.alloc (.cells #[.int .i64 0] 2)) none) := grown_alloc (grown_refl _ _) _
        have HOWA : Hid ((w10.alloc (.cells #[.int .i64 0] 2)).ownsRow r0 2 1 (.slice (some ⟨r0, 0, none⟩) 1 1) 1 [.int .i64 0]) := by
          unfold Hid
          have h := heap_alloc_new w10 (.cells #[.int .i64 0] 2)
          rw [HR0B.out] at h
          exact ⟨rfl, .inr ⟨r0, 1, #[.int .i64 0], rfl, Nat.le_refl _, h, Nat.le_refl _, by unfold maxLen; omega, rfl, rfl⟩⟩
        have hea := row_kept HGA.out HE10.out (by simp)
        have p0 : (w10.alloc (.cells #[.int .i64 0] 2)).cell? ⟨eb, 0, none⟩ = some (.int .i64 pd) := cell_of hea 0
        have p1 : (w10.alloc (.cells #[.int .i64 0] 2)).cell? ⟨eb, 1, none⟩ = some (.int .i64 pn) := cell_of hea 1
        have p2 : (w10.alloc (.cells #[.int .i64 0] 2)).cell? ⟨eb, 2, none⟩ = some (.int .i64 pa) := cell_of hea 2
        have p3 : (w10.alloc (.cells #[.int .i64 0] 2)).cell? ⟨eb, 3, none⟩ = some (.int .i64 pl) := cell_of hea 3
        have p4 : (w10.alloc (.cells #[.int .i64 0] 2)).cell? ⟨eb, 4, none⟩ = some (.int .i64 pt) := cell_of hea 4
        have p5 : (w10.alloc (.cells #[.int .i64 0] 2)).cell? ⟨eb, 5, none⟩ = some (.int .i64 pal) := cell_of hea 5
        have p6 : (w10.alloc (.cells #[.int .i64 0] 2)).cell? ⟨eb, 6, none⟩ = some (.int .i64 po) := cell_of hea 6
        have RC := Lib.hid (record_calls ⟨pd, pn, ⟨pa, pl, pt, pal, po⟩⟩ (w10.alloc (.cells #[.int .i64 0] 2)))
        have hr0s : r0 + 1 = (w10.alloc (.cells #[.int .i64 0] 2)).heap.size := by rw [← HR0B.out]; simp
        have HR0S := Lib.hid hr0s
        clear hea hr0s
        go_upto_region 26 with (first
          | (go_at_call 20; refine (RC.out).mono ?_; rintro ez w12 ⟨g8, rfl, hr8, hs8, hg12⟩; have HR8 := Lib.hid hr8.out; have HS8 := Lib.hid hs8.out; have HG12 : Hid (w10.grownBy w12 none) := grown_trans HGA.out hg12.out; have HOW12 := Lib.hid (own_kept HOWA.out hg12.out); clear hr8 hs8 hg12)
          | (at_builtin; refine wpList_append_own_at _ rfl _ _ 22 rfl r0 2 i0 (.int .i64 0) 1 8 Try.underlying22 hi0 hz0 hz1 hz2 rfl (by decide) (.slice (some ⟨w10.heap.size, 0, none⟩) 1 1) 1 [.int .i64 0] rfl (by rw [HR0B.out]; exact HOW12.out) ⟨g8, 1, none⟩ 7 7 [.int .i64 pd, .int .i64 pn, .int .i64 pa, .int .i64 pl, .int .i64 pt, .int .i64 pal, .int .i64 po] rfl rfl (fun j u hu => by rw [show ((⟨g8, 1, none⟩ : Addr).add j) = ⟨g8, 1 + j, none⟩ from Addr.add_lit _ _ _, cell_of HR8.out, arr_tail]; exact hu) (by simp [Value.oneCell']) (by unfold maxLen; omega) (by omega) (by have h1 := HG12.out.size; rw [HR0B.out] at h1; exact h1) ?_; intro v13 w13 ho13 hg13 _ hb13; obtain ⟨oa13, oc13, rfl⟩ := own_slice ho13; have HOW13 := Lib.hid ho13; have HG13 : Hid (w10.grownBy w13 none) := grown_own (r := none) HG12.out (by rw [HR0B.out]; exact HOW12.out) (by rw [HR0B.out]; exact Nat.le_refl _) hg13; have HGB : Hid (w13.grownBy (w13.alloc (.cells #[.int .i64 1] 2)) none) := grown_alloc (grown_refl _ _) _; have HOWB := Lib.hid (own_kept HOW13.out HGB.out); clear ho13 hg13 hb13)
          | (at_builtin; refine wpList_append_own_at _ rfl _ _ 22 rfl r0 2 i0 (.int .i64 0) 1 8 Try.underlying22 hi0 hz0 hz1 hz2 rfl (by decide) (.slice oa13 8 oc13) 8 ([.int .i64 0] ++ [.int .i64 pd, .int .i64 pn, .int .i64 pa, .int .i64 pl, .int .i64 pt, .int .i64 pal, .int .i64 po]) rfl HOWB.out ⟨w13.heap.size, 0, none⟩ 1 1 [.int .i64 1] rfl rfl (fun j u hu => by rw [show ((⟨w13.heap.size, 0, none⟩ : Addr).add j) = ⟨w13.heap.size, 0 + j, none⟩ from Addr.add_lit _ _ _, Nat.zero_add, cell_of (heap_alloc_new _ _), ← Array.getElem?_toList]; exact hu) (by simp [Value.oneCell']) (by unfold maxLen; omega) (by omega) (by have h1 := HG13.out.size; have h2 := HGB.out.size; rw [HR0B.out] at h1; omega) ?_; intro v15 w15 ho15 hg15 _ hb15; obtain ⟨oa15, oc15, rfl⟩ := own_slice ho15; have HOW15 := Lib.hid ho15; have HG15 : Hid (w10.grownBy w15 none) := grown_own (r := none) (grown_trans HG13.out HGB.out) HOWB.out (by rw [HR0B.out]; exact Nat.le_refl _) hg15; clear ho15 hg15 hb15))
        have HX15 := Lib.hid (row_kept HG15.out HX10.out (by simp))
        have HE15 := Lib.hid (row_kept HG15.out HE10.out (by simp))
        have HP15 := Lib.hid (HP10.out.grown HG15.out)
        have HGW15 : Hid (w.grownBy w15 none) := grown_trans HG10.out HG15.out
        obtain ⟨LS, hLS⟩ : ∃ LS, recL ⟨pd, pn, ⟨pa, pl, pt, pal, po⟩⟩ = LS := ⟨_, rfl⟩
        have HLS : Hid (w15.ownsRow r0 2 1 (.slice oa15 9 oc15) 9 (LS.map (.int .i64))) := by
          unfold Hid
          rw [← hLS]
          exact HOW15.out
        have HLL9 : Hid (LS.length = 9) := by unfold Hid; rw [← hLS]; rfl
        rw [hLS] at HDO
        clear hLS HOW15
        obtain ⟨lg, lcur, rfl, hlB, hlg, _, _, _, hlc⟩ := own_row HLS.out (by decide)
        have HLG := Lib.hid hlg
        have HLC : Hid (∀ (i : Nat) (y : Int), LS[i]? = some y → lcur[i]? = some (.int .i64 y)) := by
          intro i y hy
          have hi := (List.getElem?_eq_some_iff.1 hy).1
          rw [HLL9.out] at hi
          rw [hlc i (by omega), List.getElem?_map, hy]
          rfl
        have hwl : Hid ((Value.slice sa1 ln cap1).ownBlock ≠ some lg) := fun e => by
          have h1 := (own_base HP10.out.words e).2
          have h2 := HR0B.out
          unfold Hid at h2
          omega
        have hwe : Hid ((Value.slice sa1 ln cap1).ownBlock ≠ some eb) := fun e => by
          have h1 := (own_base HP7.out.words e).2
          have h2 := HG7X.out
          unfold Hid at h2
          omega
        clear hlg hlc hlB HLS HX10 HE10 HP10 HG10 x0 zx0
        have HLP0 : Hid (putsR d2 A 0 LS = putsR d2 A 0 (LS.drop 0)) := rfl
        have HD2E : Hid (Value.int .i64 L1 = .int .i64 d2.left) := by unfold Hid; rw [HD2L.out]
        go_wp2_with fail
        go_loopw [7, 8, 18, 19, 99] (fun v7 v8 v18 v19 v99 wr => ∃ (i : Nat) (dw : Dk), i ≤ 9 ∧ v7 = .int .i64 dw.left ∧ v8 = .bool false ∧ v99 = .int .i64 (i : Int) ∧ Hid (putsR d2 A 0 LS = putsR dw A i (LS.drop i)) ∧ Hid (PR w.heap.size wr (.slice sa1 ln cap1) (.slice oa k oc) (.slice na1 m1 nc1) xb ln t1 dw ys) ∧ Hid (wr.heap[lg]? = some (.cells lcur 2 (0, 0))) ∧ Hid (wr.heap[xb]? = some (.cells #[.int .i64 0, .int .i64 0, .slice none 0 0] 32 (0, 0))) ∧ Hid (wr.heap[eb]? = some (.cells #[.int .i64 pd, .int .i64 pn, .int .i64 pa, .int .i64 pl, .int .i64 pt, .int .i64 pal, .int .i64 po] 40 (0, 0))) ∧ Hid (w.grownBy wr none)) (fun _ _ _ _ v99 _ => 9 - (intOf v99).toNat)
        case atStart => exact ⟨0, d2, by omega, HD2E.out, rfl, rfl, HLP0.out, HP15.out, HLG.out, HX15.out, HE15.out, HGW15.out⟩
        case round =>
          obtain ⟨i, ⟨dws, dl⟩, hi, rfl, rfl, rfl, HPU, HPW, HLW, HXW, HEW, HGW⟩ := hrel
          obtain ⟨wy, hwy⟩ : ∃ wy : World, wy = wr := ⟨_, rfl⟩
          subst hwy
          clear HP15 HLG HX15 HE15 HGW15 HLP0 HD2E
          simp only at HPU HPW ⊢
          by_cases hi9 : i = 9
          · have HPT : Hid (putsR d2 A 0 LS = (⟨dws, dl⟩, true)) := by
              unfold Hid
              rw [HPU.out, List.drop_of_length_le (by rw [HLL9.out]; omega)]
              rfl
            rw [HPT.out] at HDO
            simp only [if_true] at HDO
            subst hi9
            go_upto_region 37 with fail
            clear HPU HPT HLW HLC hwl hwe
            obtain ⟨wf, hwf⟩ : ∃ wf : World, wf = wy := ⟨_, rfl⟩
            subst hwf
            obtain ⟨i4, hj, hj0, hj1, hj2⟩ := info_parts info40
            have q0 : wf.cell? ⟨eb, 0, none⟩ = some (.int .i64 pd) := cell_of HEW.out 0
            have q1 : wf.cell? ⟨eb, 1, none⟩ = some (.int .i64 pn) := cell_of HEW.out 1
            have q2 : wf.cell? ⟨eb, 2, none⟩ = some (.int .i64 pa) := cell_of HEW.out 2
            have q3 : wf.cell? ⟨eb, 3, none⟩ = some (.int .i64 pl) := cell_of HEW.out 3
            have q4 : wf.cell? ⟨eb, 4, none⟩ = some (.int .i64 pt) := cell_of HEW.out 4
            have q5 : wf.cell? ⟨eb, 5, none⟩ = some (.int .i64 pal) := cell_of HEW.out 5
            have q6 : wf.cell? ⟨eb, 6, none⟩ = some (.int .i64 po) := cell_of HEW.out 6
            have qd0 : wf.drew.cell? ⟨eb, 0, none⟩ = some (.int .i64 pd) := q0
            have qd1 : wf.drew.cell? ⟨eb, 1, none⟩ = some (.int .i64 pn) := q1
            have qd2 : wf.drew.cell? ⟨eb, 2, none⟩ = some (.int .i64 pa) := q2
            have qd3 : wf.drew.cell? ⟨eb, 3, none⟩ = some (.int .i64 pl) := q3
            have qd4 : wf.drew.cell? ⟨eb, 4, none⟩ = some (.int .i64 pt) := q4
            have qd5 : wf.drew.cell? ⟨eb, 5, none⟩ = some (.int .i64 pal) := q5
            have qd6 : wf.drew.cell? ⟨eb, 6, none⟩ = some (.int .i64 po) := q6
            have qa0 : ∀ o, (wf.alloc o).drew.cell? ⟨eb, 0, none⟩ = some (.int .i64 pd) := fun o => grown_cell (grown_alloc_drew wf o) q0 (by simp)
            have qa1 : ∀ o, (wf.alloc o).drew.cell? ⟨eb, 1, none⟩ = some (.int .i64 pn) := fun o => grown_cell (grown_alloc_drew wf o) q1 (by simp)
            have qa2 : ∀ o, (wf.alloc o).drew.cell? ⟨eb, 2, none⟩ = some (.int .i64 pa) := fun o => grown_cell (grown_alloc_drew wf o) q2 (by simp)
            have qa3 : ∀ o, (wf.alloc o).drew.cell? ⟨eb, 3, none⟩ = some (.int .i64 pl) := fun o => grown_cell (grown_alloc_drew wf o) q3 (by simp)
            have qa4 : ∀ o, (wf.alloc o).drew.cell? ⟨eb, 4, none⟩ = some (.int .i64 pt) := fun o => grown_cell (grown_alloc_drew wf o) q4 (by simp)
            have qa5 : ∀ o, (wf.alloc o).drew.cell? ⟨eb, 5, none⟩ = some (.int .i64 pal) := fun o => grown_cell (grown_alloc_drew wf o) q5 (by simp)
            have qa6 : ∀ o, (wf.alloc o).drew.cell? ⟨eb, 6, none⟩ = some (.int .i64 po) := fun o => grown_cell (grown_alloc_drew wf o) q6 (by simp)
            have HUS : Hid (SlA 7 Ed.cells wf AnyB (.slice na1 m1 nc1) t1.done) := HPW.out.dn.mono (fun _ _ => trivial)
            have HUE : Hid ((flC Ed.cells t1.done).length = m1 * 7) := by unfold Hid; rw [flC_len ed_len, HM1.out]
            go_region_law (first
              | (refine step_append_emp rfl _ _ 58 rfl wf.heap.size 40 i4 (.agg #[.int .i64 0, .int .i64 0, .int .i64 0, .int .i64 0, .int .i64 0, .int .i64 0, .int .i64 0]) 7 56 Try.underlying58 hj hj0 hj1 hj2 rfl (by decide) _ rfl (by first | exact alloc2_old _ _ _ | exact alloc2_new _ _ _ | exact heap_alloc_new _ _) (by simp) (na1) (m1) (nc1) (flC Ed.cells (t1.done)) rfl HUE.out (news_sl ed_len (by decide) (HUS.out.grown (by repeat (first | exact grown_refl _ _ | refine grown_alloc ?_ _ | refine grown_drew ?_)))) (ed_one _) (by unfold maxLen; omega) (by omega) (by first | (simp; done) | (simp; omega)) ?_; intro oa1 oc1 w1' ho1 hg1; have HO1_ := Lib.hid ho1; have HG1_ : Hid (wf.grownBy w1' none) := grown_new2 (by repeat (first | exact grown_refl _ _ | refine grown_alloc ?_ _ | refine grown_drew ?_)) hg1 (by simp); have r0 := grown_cell HG1_.out q0 (by simp); have r1 := grown_cell HG1_.out q1 (by simp); have r2 := grown_cell HG1_.out q2 (by simp); have r3 := grown_cell HG1_.out q3 (by simp); have r4 := grown_cell HG1_.out q4 (by simp); have r5 := grown_cell HG1_.out q5 (by simp); have r6 := grown_cell HG1_.out q6 (by simp); first | have HB_ := Lib.hid (row_kept hg1 (alloc2_old wf.drew (.cells #[.int .i64 pd, .int .i64 pn, .int .i64 pa, .int .i64 pl, .int .i64 pt, .int .i64 pal, .int .i64 po] 40) _) (by simp)) | have HB_ := Lib.hid (row_kept hg1 (alloc2_new wf.drew _ (.cells #[.int .i64 pd, .int .i64 pn, .int .i64 pa, .int .i64 pl, .int .i64 pt, .int .i64 pal, .int .i64 po] 40)) (by simp)) | skip; clear ho1 hg1)
              | (refine step_append_in rfl _ _ 58 rfl wf.heap.size 40 i4 (.agg #[.int .i64 0, .int .i64 0, .int .i64 0, .int .i64 0, .int .i64 0, .int .i64 0, .int .i64 0]) 7 56 Try.underlying58 hj hj0 hj1 hj2 rfl (by decide) (.slice oa1 (m1) oc1) (m1) (flC Ed.cells (t1.done)) rfl (by first | exact HO1_.out | exact own_kept HO1_.out (grown_alloc (grown_refl _ _) _)) (some ⟨_, 0, none⟩) 1 1 [.int .i64 pd, .int .i64 pn, .int .i64 pa, .int .i64 pl, .int .i64 pt, .int .i64 pal, .int .i64 po] rfl rfl (news_row (by first | exact heap_alloc_new _ _ | exact HB_.out)) (by simp [Value.oneCell']) (by unfold maxLen; omega) (by omega) (by first | exact HG1_.out.size | exact Nat.le_trans HG1_.out.size (by simp)) ?_; intro oa2 oc2 w2' ho2 hg2 hb2; have HO2_ := Lib.hid ho2; have HG2_ : Hid (wf.grownBy w2' none) := grown_own (by first | exact HG1_.out | exact grown_alloc HG1_.out _) (by first | exact HO1_.out | exact own_kept HO1_.out (grown_alloc (grown_refl _ _) _)) (Nat.le_refl _) hg2; clear ho2 hg2 hb2))
            all_goals
              have hE := HDO.out
              simp only [Prod.mk.injEq] at hE
              obtain ⟨e1, e2, e3⟩ := hE
              have hmm : m2 = m1 + 1 := by
                have h1 := HM2.out
                have h2 := HM1.out
                unfold Hid at h1 h2
                rw [e1] at h1
                simp only [List.length_append, List.length_singleton] at h1
                omega
              have HFB : Hid (∃ na2 nc2, Value.int IntKind.i64 dl = Value.int IntKind.i64 d3.left ∧ Value.bool false = Value.bool t2.broken ∧ Value.slice oa2 (m1 + 1) oc2 = Value.slice na2 m2 nc2 ∧ Hid (PR w.heap.size w2' (.slice sa1 ln cap1) (.slice oa k oc) (.slice na2 m2 nc2) xb ln t2 d3 ys) ∧ Hid (w2'.heap[xb]? = some (.cells #[.int .i64 er, .int .i64 0, .slice none 0 0] 32 (0, 0))) ∧ Hid (w.grownBy w2' none)) := by
                rw [e1, e2, e3, hmm]
                refine ⟨oa2, oc2, rfl, rfl, rfl, ?_, row_kept HG2_.out HXW.out (by simp), grown_trans HGW.out HG2_.out⟩
                have h9 : w2'.ownsRow wf.heap.size 40 7 (.slice oa2 (m1 + 1) oc2) (m1 + 1) (flC Ed.cells (t1.done ++ [⟨pd, pn, ⟨pa, pl, pt, pal, po⟩⟩])) := by
                  rw [flC_append]
                  exact HO2_.out
                exact HPW.out.edits HG2_.out (.inl (lt_of HXW.out)) (Nat.le_refl _) h9 (by rw [List.length_append, HM1.out]; rfl) (okay_snoc HPW.out.okay HMM.out) (by omega) false
              clear e1 e2 e3 HO2_ HUS HUE q0 q1 q2 q3 q4 q5 q6 qd0 qd1 qd2 qd3 qd4 qd5 qd6 qa0 qa1 qa2 qa3 qa4 qa5 qa6
              go_wp2_with fail
              go_meet
              exact HFB.out
          have hi9l : i < 9 := by omega
          have hi9i : (i : Int) < 9 := by omega
          obtain ⟨y, hy⟩ : ∃ y, LS[i]? = some y := ⟨LS[i]'(by rw [HLL9.out]; exact hi9l), List.getElem?_eq_getElem _⟩
          have HLD : Hid (LS.drop i = y :: LS.drop (i + 1)) := by
            unfold Hid
            obtain ⟨hh, he⟩ := List.getElem?_eq_some_iff.1 hy
            rw [List.drop_eq_getElem_cons hh, he]
          have y0 : wy.cell? ⟨lg, i, none⟩ = some (.int .i64 y) := (cell_of HLW.out i).trans (HLC.out i y hy)
          clear hy
          have hpc := HPU.out
          rw [HLD.out, putsR_cons] at hpc
          by_cases hdl : dl = 0
          · rw [if_pos hdl] at hpc
            rw [hpc] at HDO
            simp only [Bool.false_eq_true, if_false] at HDO
            have hE := HDO.out
            simp only [Prod.mk.injEq] at hE
            obtain ⟨e1, e2, e3⟩ := hE
            subst hdl
            have HFB : Hid (∃ na2 nc2, Value.int IntKind.i64 0 = Value.int IntKind.i64 d3.left ∧ Value.bool true = Value.bool t2.broken ∧ Value.slice na1 m1 nc1 = Value.slice na2 m2 nc2 ∧ Hid (PR w.heap.size (wy.setCell ⟨xb, 0, none⟩ (.int .i64 11)) (.slice sa1 ln cap1) (.slice oa k oc) (.slice na2 m2 nc2) xb ln t2 d3 ys) ∧ Hid ((wy.setCell ⟨xb, 0, none⟩ (.int .i64 11)).heap[xb]? = some (.cells #[.int .i64 er, .int .i64 0, .slice none 0 0] 32 (0, 0))) ∧ Hid (w.grownBy (wy.setCell ⟨xb, 0, none⟩ (.int .i64 11)) none)) := by
              have hmm : m2 = m1 := by have h1 := HM2.out; have h2 := HM1.out; unfold Hid at h1 h2; rw [e1] at h1; exact h1.symm.trans h2
              rw [e1, e2, e3, hmm]
              refine ⟨na1, nc1, rfl, rfl, rfl, (HPW.out.broken true).setx 0 _, set_self HXW.out _, grown_set HGW.out (.inr ?_) _⟩
              have h1 := HSB.out
              have h2 := HXB.out
              have h4 := HWZ.out
              unfold Hid at h1 h2 h4
              show w.heap.size ≤ xb
              omega
            clear hpc e1 e2 e3
            have x0 := cell_of HXW.out 0
            have zx0 := free_of HXW.out 0
            go_wp2_with fail
            go_meet
            exact HFB.out
          rw [if_neg hdl] at hpc
          have HPC := Lib.hid hpc
          clear hpc
          obtain ⟨r, hr⟩ : ∃ r, i % 8 = r := ⟨_, rfl⟩
          have hr8 : r < 8 := by omega
          have hmod : (i : Int).tmod 8 = (r : Int) := by rw [← hr]; rfl
          have HR8 := Lib.hid hr
          clear hr
          obtain ⟨q, hq⟩ : ∃ q, A + r = q := ⟨_, rfl⟩
          have hql : q < ln := by omega
          have hqi : (q : Int) < (ln : Int) := by omega
          have hwq : IntKind.i64.wrap ((A : Int) + (r : Int)) = (q : Int) := by rw [IntWalk.i64_in _ (by omega)]; omega
          have hwi : IntKind.i64.wrap ((i : Int) + 1) = (i : Int) + 1 := IntWalk.i64_in _ (by omega)
          have HQ := Lib.hid hq
          clear hq
          obtain ⟨g, cur, hsa, hgB, hgg, hgc, _, hgs, _⟩ := HPW.out.row rfl (by omega)
          have hcs : q < cur.size := by omega
          have c0 : wy.cell? ⟨g, q, none⟩ = some (cur[q]'hcs) := (cell_of hgg q).trans (Array.getElem?_eq_getElem hcs)
          have z0 := free_of hgg q
          clear hgg
          obtain ⟨hsl, hdlr⟩ : (Value.slice sa1 ln cap1).ownBlock = some g ∧ (-9223372036854775808 ≤ dl ∧ dl < 9223372036854775808) := ⟨by rw [hsa]; rfl, HPW.out.left⟩
          have HSA := Lib.hid hsa
          have hglg : g ≠ lg := fun e => hwl.out (by rw [hsl, e])
          have hgxb : g ≠ xb := fun e => HPW.out.nx.1 (by rw [hsl, e])
          have hgeb : g ≠ eb := fun e => hwe.out (by rw [hsl, e])
          have HFR : Hid (∀ nl : Int, (if 0 < dl then dl - 1 else dl) = nl → ∃ (i' : Nat) (dw : Dk), i' ≤ 9 ∧ Value.int .i64 nl = .int .i64 dw.left ∧ Value.bool false = .bool false ∧ Value.int .i64 ((i : Int) + 1) = .int .i64 (i' : Int) ∧ Hid (putsR d2 A 0 LS = putsR dw A i' (LS.drop i')) ∧ Hid (PR w.heap.size (wy.setCell ⟨g, q, none⟩ (.int .i64 y)) (.slice sa1 ln cap1) (.slice oa k oc) (.slice na1 m1 nc1) xb ln t1 dw ys) ∧ Hid ((wy.setCell ⟨g, q, none⟩ (.int .i64 y)).heap[lg]? = some (.cells lcur 2 (0, 0))) ∧ Hid ((wy.setCell ⟨g, q, none⟩ (.int .i64 y)).heap[xb]? = some (.cells #[.int .i64 0, .int .i64 0, .slice none 0 0] 32 (0, 0))) ∧ Hid ((wy.setCell ⟨g, q, none⟩ (.int .i64 y)).heap[eb]? = some (.cells #[.int .i64 pd, .int .i64 pn, .int .i64 pa, .int .i64 pl, .int .i64 pt, .int .i64 pal, .int .i64 po] 40 (0, 0))) ∧ Hid (w.grownBy (wy.setCell ⟨g, q, none⟩ (.int .i64 y)) none)) := by
            intro nl hnl
            have h1 := HPC.out
            rw [hnl, HR8.out, HQ.out] at h1
            refine ⟨i + 1, ⟨dws.set q y, nl⟩, by omega, rfl, rfl, by simp, h1, ?_, ?_, ?_, ?_, grown_set HGW.out (.inr hgB) _⟩
            · have h2 := HPW.out.put (by rw [hsa]) hql y
              exact h2.power (by rw [← hnl]; split <;> omega)
            · unfold Hid; rw [set_other (by exact fun e => hglg e.symm)]; exact HLW.out
            · unfold Hid; rw [set_other (by exact fun e => hgxb e.symm)]; exact HXW.out
            · unfold Hid; rw [set_other (by exact fun e => hgeb e.symm)]; exact HEW.out
          by_cases hpos : 0 < dl
          · have hwd : IntKind.i64.wrap (dl - 1) = dl - 1 := IntWalk.i64_in _ (by omega)
            have hf := HFR.out (dl - 1) (if_pos hpos)
            have HF := Lib.hid hf
            subst hsa
            clear hsl hf
            go_wp2_with fail
            refine ⟨?_, by simp [intOf]; omega⟩
            first
              | exact HF.out
              | (repeat apply Exists.intro
                 refine ⟨?_, rfl⟩
                 exact HF.out)
          · have hf := HFR.out dl (if_neg hpos)
            have HF := Lib.hid hf
            subst hsa
            clear hsl hf
            go_wp2_with fail
            refine ⟨?_, by simp [intOf]; omega⟩
            first
              | exact HF.out
              | (repeat apply Exists.intro
                 refine ⟨?_, rfl⟩
                 exact HF.out)
    obtain ⟨na2, nc2, rfl, rfl, rfl, HP8, HX8, HG8⟩ := hcut
    obtain ⟨w8, hw8⟩ : ∃ w8 : World, w8 = wc := ⟨_, rfl⟩
    subst hw8
    clear s1
    have HSTEP : Hid (stepR t d ⟨OP, ⟨D, N, ⟨ta, tl, tt, tal, to_⟩⟩, PW, PK, WD⟩ = (t2, d3, ⟨er, rerrT t2, rlineT t2⟩)) := stepR_eq t d _ L1 d2 t1 t2 d3 er HL1.out (by rw [HDWL.out]; exact HD2.out) HT1.out HRD.out
    have HXLT : Hid (w.heap.size ≤ xb) := by
      have h1 := HSB.out
      have h2 := HXB.out
      have h4 := HWZ.out
      unfold Hid at h1 h2 h4 ⊢
      omega
    obtain ⟨tb, htb⟩ : ∃ tb, t2.broken = tb := ⟨_, rfl⟩
    have HTB := Lib.hid htb
    simp only [htb]
    clear htb
    go_upto_if 126 with fail
    go_cut [126] from 28 to 135 (fun c wx => ∃ la lc, Hid (PR w.heap.size wx (.slice sa1 ln cap1) (.slice oa k oc) (.slice na2 m2 nc2) xb ln t2 d3 ys) ∧ Hid (wx.heap[xb]? = some (.cells #[.int .i64 er, .int .i64 (rerrT t2), .slice la (rlineT t2).length lc] 32 (0, 0))) ∧ Hid (TosA wx (AR wx (.slice sa1 ln cap1) (.slice oa k oc) xb) (.slice la (rlineT t2).length lc) (rlineT t2)) ∧ Hid (w.grownBy wx none))
    case first =>
      have HEX : Hid (rerrT t2 = if t2.broken = true then 9 else 0) := rfl
      have HLX : Hid (rlineT t2 = if t2.broken = true then [] else tonesR t2.done) := rfl
      rw [HTB.out] at HEX HLX
      cases tb with
      | true =>
        rw [if_pos rfl] at HEX HLX
        have x1 := cell_of HX8.out 1
        have zx1 := free_of HX8.out 1
        go_wp2_with fail
        go_meet
        rw [HEX.out, HLX.out]
        exact ⟨none, 0, HP8.out.setx 1 _, set_self HX8.out _, .inr ⟨_, _, rfl, rfl⟩, grown_set HG8.out (.inr HXLT.out) _⟩
      | false =>
        rw [if_neg (by simp)] at HEX HLX
        have TC := Lib.hid (rtones_calls na2 nc2 t2.done w8 (by rw [HM2.out]; exact HP8.out.dn.mono (fun _ _ => trivial)) HP8.out.okay HP8.out.few)
        rw [HM2.out] at TC
        obtain ⟨TL, hTL⟩ : ∃ TL, tonesR t2.done = TL := ⟨_, rfl⟩
        rw [hTL] at TC HLX
        clear hTL
        go_wp2_with (go_at_call 21; refine (TC.out).mono ?_; rintro ez w9 ⟨la, lc, rfl, ho9, hg9⟩; have hx9 := row_kept hg9.out HX8.out (by simp); have x2 := cell_of hx9 2; have zx2 := free_of hx9 2)
        go_meet
        rw [HEX.out, HLX.out]
        have hp9 := HP8.out.grown hg9.out
        have hf9 : Fr (fun b => b = xb) w9 (w9.setCell ⟨xb, 2, none⟩ (.slice la TL.length lc)) := fr_set (X := fun b => b = xb) (p := ⟨xb, 2, none⟩) (Fr.refl _ _) (.inl rfl) _
        have hxl := lt_of HX8.out
        refine ⟨la, lc, hp9.setx 2 _, set_self hx9 _, ?_, grown_set (grown_trans HG8.out hg9.out) (.inr HXLT.out) _⟩
        refine SlA.fr (X := fun b => b = xb) (sla_of_own tone_len ho9.out _ (fun b hb => ?_)) hf9 (fun b hb e => hb.2.2.1 e)
        have h1 := own_base ho9.out hb
        exact ⟨fun e => by have h2 := (own_base HP8.out.words e).2; omega, fun e => by have h2 := (own_base HP8.out.out.own e).2; omega, fun e => by omega, by rw [size_set]; exact h1.2⟩
    obtain ⟨la, lc, HP9, HX9, HTO9, HG9⟩ := hcut
    obtain ⟨w9, hw9⟩ : ∃ w9 : World, w9 = wc := ⟨_, rfl⟩
    subst hw9
    clear HP8 HX8 HG8
    obtain ⟨lt2, hlt2⟩ : ∃ lt2, rerrT t2 = lt2 := ⟨_, rfl⟩
    obtain ⟨ln2, hln2⟩ : ∃ ln2, rlineT t2 = ln2 := ⟨_, rfl⟩
    rw [hlt2, hln2] at HX9 HSTEP
    rw [hln2] at HTO9
    clear hlt2 hln2
    obtain ⟨i3, hi3, hy0, hy1, hy2⟩ := info_parts info32
    have hkb : k + 1 ≤ 1599289640401 := by omega
    have x0 := cell_of HX9.out 0
    have x1 := cell_of HX9.out 1
    have x2 := cell_of HX9.out 2
    have HGA9 : Hid (w9.grownBy (w9.alloc (.cells #[.int .i64 er, .int .i64 lt2, .slice la ln2.length lc] 32)) none) := grown_alloc (grown_refl _ _) _
    have HOWN : Hid ((w9.alloc (.cells #[.int .i64 er, .int .i64 lt2, .slice la ln2.length lc] 32)).ownsRow w.heap.size 32 3 (.slice oa k oc) k (flC tnC ys)) := by
      have h := (HP9.out.grown HGA9.out).out.own
      rw [HYL.out] at h
      exact h
    have hwk : IntKind.i64.wrap ((k : Int) + 1) = (k : Int) + 1 := IntWalk.i64_in _ (by omega)
    go_upto_region 42 with (at_builtin; refine wpList_append_own_at _ rfl _ _ 24 rfl w.heap.size 32 i3 (.agg #[.int .i64 0, .int .i64 0, .slice none 0 0]) 3 40 Try.underlying24 hi3 hy0 hy1 hy2 rfl (by decide) (.slice oa k oc) k (flC tnC ys) rfl HOWN.out ⟨w9.heap.size, 0, none⟩ 1 1 [.int .i64 er, .int .i64 lt2, .slice la ln2.length lc] rfl rfl (fun j u hu => by rw [show ((⟨w9.heap.size, 0, none⟩ : Addr).add j) = ⟨w9.heap.size, 0 + j, none⟩ from Addr.add_lit _ _ _, Nat.zero_add, cell_of (heap_alloc_new _ _), ← Array.getElem?_toList]; exact hu) (by simp [Value.oneCell']) (by unfold maxLen; omega) (by omega) (by have h1 := HG9.out.size; have h2 := HGA9.out.size; omega) ?_; intro v11 w11 ho11 hg11 _ hb11; obtain ⟨oa2, oc2, rfl⟩ := own_slice ho11)
    have hpush : ∀ x', w11.heap.size ≤ x' → PR w.heap.size w11 (.slice sa1 ln cap1) (.slice oa2 (k + 1) oc2) (.slice na2 m2 nc2) x' ln t2 d3 (ys ++ [(⟨er, lt2, ln2⟩, .slice la ln2.length lc)]) := fun x' hx' => (HP9.out.grown HGA9.out).push HYL.out hg11 ho11 hb11 ((SlA.grown HTO9.out HGA9.out).mono (ar_size HGA9.out.size)) ⟨_, _, _, rfl⟩ x' hx'
    have hrr : RR = ((ys ++ [((⟨er, lt2, ln2⟩ : Tn), Value.slice la ln2.length lc)]).map Prod.fst ++ (runR t2 d3 (ps.drop (k + 1))).1, (runR t2 d3 (ps.drop (k + 1))).2) := by
      rw [HRK.out, HSTEP.out]
      simp
    have hgw : w.grownBy w11 none := grown_own (grown_trans HG9.out HGA9.out) HOWN.out (Nat.le_refl _) hg11
    have hyl : (ys ++ [((⟨er, lt2, ln2⟩ : Tn), Value.slice la ln2.length lc)]).length = k + 1 := by rw [List.length_append, HYL.out]; rfl
    have FIN := Lib.hid (And.intro hpush (And.intro hrr (And.intro hgw hyl)))
    clear hpush hrr hgw hyl ho11 hg11 hb11 x0 x1 x2
    go_wp2_with fail
    refine ⟨?_, by simp [intOf]; omega⟩
    obtain ⟨hpush, hrr, hgw, hyl⟩ := FIN.out
    first
      | exact ⟨k + 1, t2, d3, _, oa2, oc2, na2, m2, nc2, by omega, rfl, by rw [HTB.out], rfl, rfl, rfl, HM2.out, hyl, hrr, hpush, hgw⟩
      | (repeat apply Exists.intro
         refine ⟨?_, rfl⟩
         exact ⟨k + 1, t2, d3, _, oa2, oc2, na2, m2, nc2, by omega, rfl, by rw [HTB.out], rfl, rfl, rfl, HM2.out, hyl, hrr, hpush, hgw⟩)
end Go.Proofs.Ytdnmimfichijgaa.KRPlay
