/- TakePlays: the law's walk. -/
import Derived.Test.YtdnmimfichijgaaKRPlay
namespace Go.Proofs.Ytdnmimfichijgaa.KPlL
open Go Go.RowKit Go.Proofs.Ytdnmimfichijgaa.KMod Go.Proofs.Ytdnmimfichijgaa.KTk Go.Proofs.Ytdnmimfichijgaa.KRead Go.Proofs.Ytdnmimfichijgaa.KCells Go.Proofs.Ytdnmimfichijgaa.KTake Go.Proofs.Ytdnmimfichijgaa.KAlive Go.Proofs.Ytdnmimfichijgaa.KSame Go.Proofs.Ytdnmimfichijgaa.KJ Go.Proofs.Ytdnmimfichijgaa.KRef Go.Proofs.Ytdnmimfichijgaa.KROk Go.Proofs.Ytdnmimfichijgaa.KPR Go.Proofs.Ytdnmimfichijgaa.KRPlay Go.Proofs.Ytdnmimfichijgaa.Hp Go.Proofs.Ytdnmimfichijgaa.Rd Go.Proofs.Ytdnmimfichijgaa.Opn
set_option linter.unusedVariables false
set_option linter.unusedSimpArgs false

theorem stepK_small {t : Tk} (h : GoodT t) (d : Dk) (p : Stp) : GoodT (stepK t d p).1 ∧ (stepK t d p).2.2.ts.length ≤ 1024 ∧ (stepK t d p).2.1.words.length = d.words.length := by
  have tn : ∀ (t2 : Tk) (y : Int), GoodT t2 → (tonesT t2 ⟨y, 0, []⟩).ts.length ≤ 1024 := fun t2 y h => by
    unfold tonesT
    split
    · simp
    · exact h.s.big _ h.s.now_mem
  unfold stepK
  simp only
  obtain ⟨d2, hd2⟩ : ∃ d2 : Dk, (if 0 < p.poke ∧ p.poke ≤ (d.words.length : Int) then (⟨d.words.set (p.poke - 1).toNat p.word, if p.power ≠ 0 then IntKind.i64.wrap (p.power - 1) else d.left⟩ : Dk) else ⟨d.words, if p.power ≠ 0 then IntKind.i64.wrap (p.power - 1) else d.left⟩) = d2 := ⟨_, rfl⟩
  have hl : d2.words.length = d.words.length := by
    rw [← hd2]
    split
    · simp
    · rfl
  rw [hd2]
  obtain ⟨t1, ht1⟩ : ∃ t1, (if p.open_ = true then openT d2.words else t) = t1 := ⟨_, rfl⟩
  rw [ht1]
  have hg1 : GoodT t1 := by
    rw [← ht1]
    split
    · exact openT_good _
    · exact h
  by_cases hd : p.e.do_ ≠ 0
  · rw [if_pos hd]
    have hg := do_good hg1 d2 p.e
    exact ⟨hg.1, tn _ _ hg.1, hg.2.trans hl⟩
  · rw [if_neg hd]
    exact ⟨hg1, tn _ _ hg1, hl⟩
theorem runK_small (ps : List Stp) : ∀ (t : Tk) (d : Dk), GoodT t → (∀ x ∈ (runK t d ps).1, x.ts.length ≤ 1024) ∧ (runK t d ps).2.words.length = d.words.length := by
  induction ps with
  | nil => intro t d _; exact ⟨fun x hx => by simp [runK] at hx, rfl⟩
  | cons p r ih =>
    intro t d hg
    obtain ⟨h1, h2, h3⟩ := stepK_small hg d p
    obtain ⟨g1, g2⟩ := ih (stepK t d p).1 (stepK t d p).2.1 h1
    refine ⟨fun x hx => ?_, ?_⟩
    · have e : (runK t d (p :: r)).1 = (stepK t d p).2.2 :: (runK (stepK t d p).1 (stepK t d p).2.1 r).1 := rfl
      rw [e] at hx
      rcases List.mem_cons.1 hx with rfl | hx
      · exact h2
      · exact g1 x hx
    · have e : (runK t d (p :: r)).2 = (runK (stepK t d p).1 (stepK t d p).2.1 r).2 := rfl
      rw [e, g2, h3]

theorem rplay_tns (wa sa : Option Addr) (wc sc : Nat) (ws : List Int) (ps : List Stp) (w : World) (hw : Ils w (.slice wa ws.length wc) ws) (hp : SlA 11 stC w AnyB (.slice sa ps.length sc) ps) (hwb : ws.length ≤ 17592186044416) (hpb : ps.length * 88 ≤ 140737488355328) :
    Calls Try.prog 8 #[.slice wa ws.length wc, .slice sa ps.length sc] w
      fun r w' => ∃ la lc ao c, r = .returned (.tuple #[.slice la (runK (openT ws) ⟨ws, -1⟩ ps).1.length lc, .slice ao ws.length c]) ∧ Hid (TnsR w' (.slice la (runK (openT ws) ⟨ws, -1⟩ ps).1.length lc) (runK (openT ws) ⟨ws, -1⟩ ps).1) ∧ Hid (Ils w' (.slice ao ws.length c) (runK (openT ws) ⟨ws, -1⟩ ps).2.words) ∧ Hid (w.grownBy w' none) := by
  refine (rplay_calls wa sa wc sc ws ps w hw hp hwb hpb).mono ?_
  rintro r w' ⟨v, ao, c, ys, rfl, h1, h2, h3, h4⟩
  have hp := plays ws ps
  rw [hp] at h1 h3
  have ht := tns_of_out h2.out h1.out
  obtain ⟨la, lc, rfl⟩ := tns_open ht
  exact ⟨la, lc, ao, c, rfl, ht, h3, h4⟩

set_option maxHeartbeats 4000000 in
set_option maxRecDepth 100000 in
theorem law (wa sa : Option Addr) (wc sc : Nat) (ws : List Int) (ps : List Stp) (w : World) (hw : Ils w (.slice wa ws.length wc) ws) (hp : SlA 11 stC w AnyB (.slice sa ps.length sc) ps) (hwb : ws.length ≤ 17592186044416) (hpb : ps.length * 88 ≤ 140737488355328) :
    Calls Try.prog 3 #[.slice wa ws.length wc, .slice sa ps.length sc] w fun r w' => r = .returned (.bool true) ∧ Hid (w.grownBy w' none) := by
  have TC := Lib.hid (take_tns wa sa wc sc ws ps w hw hp hwb hpb)
  have RC := Lib.hid (fun (w' : World) (hg : w.grownBy w' none) => rplay_tns wa sa wc sc ws ps w' (hw.grown hg) (hp.grown hg) hwb hpb)
  have hXL := run_len ps (openT ws) ⟨ws, -1⟩
  obtain ⟨hsm, hwl⟩ := runK_small ps (openT ws) ⟨ws, -1⟩ (openT_good ws)
  obtain ⟨⟨XS, DW⟩, hRR⟩ : ∃ RR, runK (openT ws) ⟨ws, -1⟩ ps = RR := ⟨_, rfl⟩
  rw [hRR] at TC RC hXL hsm hwl
  simp only at TC RC hXL hsm hwl
  clear hRR
  obtain ⟨WS, hWS⟩ : ∃ WS, DW.words = WS := ⟨_, rfl⟩
  rw [hWS] at TC RC hwl
  clear hWS
  obtain ⟨ln, hln⟩ : ∃ ln, ws.length = ln := ⟨_, rfl⟩
  obtain ⟨n, hn⟩ : ∃ n, ps.length = n := ⟨_, rfl⟩
  rw [hXL] at TC RC
  rw [hn] at TC RC hXL hpb ⊢
  rw [hln] at TC RC hwl hwb ⊢
  have HXL := Lib.hid hXL
  have HWL := Lib.hid hwl
  have HSM := Lib.hid hsm
  clear hw hp hln hn hXL hwl hsm
  go_enter Try.func3, Try.ntmps3
  go_upto_region 2 with (go_at_call 7; refine (TC.out).mono ?_; rintro ez w1 ⟨la, lc, ao, an, ac, rfl, ht1, hi1, hg1⟩)
  obtain ⟨han, hi1b⟩ := hi1.out
  have han2 := han.symm
  clear han hi1
  subst han2
  obtain ⟨w1, rfl⟩ : ∃ w1' : World, w1' = w1 := ⟨_, rfl⟩
  have HG1 := Lib.hid hg1.out
  go_upto_region 3 with (go_at_call 8; refine (RC.out _ HG1.out).mono ?_; rintro ez w2 ⟨lb, lbc, bo, bc, rfl, ht2, hi2, hg2⟩)
  obtain ⟨w2, rfl⟩ : ∃ w2' : World, w2' = w2 := ⟨_, rfl⟩
  have HG2 : Hid (w.grownBy w2 none) := grown_trans HG1.out hg2.out
  have HTA := Lib.hid (ht1.out.grown hg2.out)
  have HTB := Lib.hid ht2.out
  have HIA := Lib.hid (hi1b.grown hg2.out)
  have HIB := Lib.hid hi2.out
  clear ht1 hi1b hg1 ht2 hi2 hg2 TC RC HG1
  go_upto_region 5 with fail
  go_wp2_with fail
  go_loopw [10, 43] (fun v10 v43 wr => ∃ i : Nat, i ≤ ln ∧ v43 = .int .i64 (i : Int) ∧ ∃ m, wr = w2.drewN m) (fun _ v43 _ => ln - (intOf v43).toNat)
  case atStart => exact ⟨0, Nat.zero_le _, rfl, 0, rfl⟩
  case round =>
    obtain ⟨i, hi, rfl, m, rfl⟩ := hrel
    by_cases hin : i = ln
    · have h2 := hin.symm
      subst h2
      clear hin
      go_wp2_with fail
      go_loopw [11, 58] (fun v11 v58 wr => ∃ i : Nat, i ≤ n ∧ v58 = .int .i64 (i : Int) ∧ ∃ m, wr = w2.drewN m) (fun _ v58 _ => n - (intOf v58).toNat)
      case atStart => exact ⟨0, Nat.zero_le _, rfl, m, rfl⟩
      case round =>
        obtain ⟨j, hj, rfl, m2, rfl⟩ := hrel
        by_cases hjn : j = n
        · have h2 := hjn.symm
          subst h2
          clear hjn
          go_wp2_with fail
          go_ret
          exact ⟨rfl, grown_drewN HG2.out _⟩
        have hjl : (j : Int) < (n : Int) := by omega
        have hwj : IntKind.i64.wrap ((j : Int) + 1) = (j : Int) + 1 := IntWalk.i64_in _ (by omega)
        obtain ⟨x, hx⟩ : ∃ x, XS[j]? = some x := ⟨XS[j]'(by rw [HXL.out]; omega), List.getElem?_eq_getElem _⟩
        obtain ⟨xb, xo, xa, xc, rfl, x0, x1, x2, hxt⟩ := tns_at HTA.out hx
        obtain ⟨yb, yo, ya, yc, rfl, y0, y1, y2, hyt⟩ := tns_at HTB.out hx
        have hle := HSM.out x (List.mem_of_getElem? hx)
        obtain ⟨xe, xt, xts⟩ := x
        simp only at x0 x1 x2 hxt y0 y1 y2 hyt hle
        obtain ⟨wq, hwq⟩ : ∃ wq, w2.drewN m2 = wq := ⟨_, rfl⟩
        have HGQ : Hid (w2.grownBy wq none) := by unfold Hid; rw [← hwq]; exact grown_drewN (grown_refl _ _) _
        have HWQ := Lib.hid hwq
        have SQ := Lib.hid (fun m => same_quiet xa ya xc yc xts (wq.drewN m) (hxt.grown (grown_drewN HGQ.out _)) (hyt.grown (grown_drewN HGQ.out _)) (by omega))
        have x0 := grown_cell HGQ.out x0 (by simp)
        have x1 := grown_cell HGQ.out x1 (by simp)
        have x2 := grown_cell HGQ.out x2 (by simp)
        have y0 := grown_cell HGQ.out y0 (by simp)
        have y1 := grown_cell HGQ.out y1 (by simp)
        have y2 := grown_cell HGQ.out y2 (by simp)
        simp only [hwq]
        clear hwq
        obtain ⟨xn, hxn⟩ : ∃ xn, xts.length = xn := ⟨_, rfl⟩
        rw [hxn] at x2 y2 SQ
        clear hx hxt hyt hle hxn hjn
        go_upto_region 14 with fail
        go_quiet ((go_at_call 9; exact Calls.quiet_of (SQ.out _)))
        go_wp2_with fail
        refine ⟨?_, by simp [intOf]; omega⟩
        first
          | exact ⟨j + 1, by omega, rfl, _, by rw [← HWQ.out, World.drewN_drewN]⟩
          | (repeat apply Exists.intro
             refine ⟨?_, rfl⟩
             exact ⟨j + 1, by omega, rfl, _, by rw [← HWQ.out, World.drewN_drewN]⟩)
    have hil : (i : Int) < (ln : Int) := by omega
    have hwi : IntKind.i64.wrap ((i : Int) + 1) = (i : Int) + 1 := IntWalk.i64_in _ (by omega)
    obtain ⟨x, hx⟩ : ∃ x, WS[i]? = some x := ⟨WS[i]'(by rw [HWL.out]; omega), List.getElem?_eq_getElem _⟩
    obtain ⟨ab, ao9, rfl, a0⟩ : ∃ b off, ao = some ⟨b, off, none⟩ ∧ w2.cell? ⟨b, off + i, none⟩ = some (.int .i64 x) := by
      rcases HIA.out with ⟨b, off, cap, e, h⟩ | ⟨_, _, _, h0⟩
      · simp only [Value.slice.injEq] at e
        obtain ⟨u, hu, hr⟩ := h i x hx
        exact ⟨b, off, e.1, by rw [hu, hr]⟩
      · rw [h0] at hx; simp at hx
    obtain ⟨bb, bo9, rfl, b0⟩ : ∃ b off, bo = some ⟨b, off, none⟩ ∧ w2.cell? ⟨b, off + i, none⟩ = some (.int .i64 x) := by
      rcases HIB.out with ⟨b, off, cap, e, h⟩ | ⟨_, _, _, h0⟩
      · simp only [Value.slice.injEq] at e
        obtain ⟨u, hu, hr⟩ := h i x hx
        exact ⟨b, off, e.1, by rw [hu, hr]⟩
      · rw [h0] at hx; simp at hx
    clear hx hin
    go_upto_region 8 with fail
    go_quiet (fail)
    go_wp2_with fail
    refine ⟨?_, by simp [intOf]; omega⟩
    first
      | exact ⟨i + 1, by omega, rfl, _, rfl⟩
      | (repeat apply Exists.intro
         refine ⟨?_, rfl⟩
         exact ⟨i + 1, by omega, rfl, _, rfl⟩)
end Go.Proofs.Ytdnmimfichijgaa.KPlL
