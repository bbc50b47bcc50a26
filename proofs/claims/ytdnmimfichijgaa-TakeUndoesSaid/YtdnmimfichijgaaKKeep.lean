/- TakeKeeps: the law's walk. -/
import Derived.Test.YtdnmimfichijgaaKUnp
import Derived.Deep.CutRange
namespace Go.Proofs.Ytdnmimfichijgaa.KKeep
open Go Go.RowKit Go.Proofs.Ytdnmimfichijgaa.KMod Go.Proofs.Ytdnmimfichijgaa.KTk Go.Proofs.Ytdnmimfichijgaa.KRead Go.Proofs.Ytdnmimfichijgaa.KCells Go.Proofs.Ytdnmimfichijgaa.KTake Go.Proofs.Ytdnmimfichijgaa.KAlive Go.Proofs.Ytdnmimfichijgaa.KSame Go.Proofs.Ytdnmimfichijgaa.KJ Go.Proofs.Ytdnmimfichijgaa.KUnp Go.Proofs.Ytdnmimfichijgaa.Hp Go.Proofs.Ytdnmimfichijgaa.Rd Go.Proofs.Ytdnmimfichijgaa.Opn
set_option linter.unusedVariables false
set_option linter.unusedSimpArgs false

theorem same_at (a : Option Addr) (na ca : Nat) (b : Option Addr) (nb cb : Nat) (es : List Tone) (w : World) (hna : es.length = na) (hnb : es.length = nb) (ha : Tos w (.slice a na ca) es) (hb : Tos w (.slice b nb cb) es) (hmax : es.length ≤ 1099511627776) :
    Calls Try.prog 9 #[.slice a na ca, .slice b nb cb] w fun e w' => e = .returned (.bool true) ∧ Hid (w.grownBy w' none) := by
  subst hna
  subst hnb
  refine (same_quiet a b ca cb es w ha hb hmax).mono ?_
  rintro e w' ⟨rfl, m, rfl⟩
  exact ⟨rfl, grown_drewN (grown_refl _ _) _⟩

set_option maxHeartbeats 1500000 in
set_option maxRecDepth 100000 in
theorem law (R : Int) (sa : Option Addr) (sc : Nat) (ps : List Stp) (w : World) (hp : SlA 11 stC w AnyB (.slice sa ps.length sc) ps) (hpb : ps.length * 88 ≤ 140737488355328) :
    Calls Try.prog 5 #[.int .i64 R, .slice sa ps.length sc] w fun e w' => e = .returned (.bool true) ∧ Hid (w.grownBy w' none) := by
  have AC := Lib.hid (alive_calls w)
  have UC := Lib.hid (fun (w' : World) (hg : w.grownBy w' none) => unpoked_calls sa sc ps w' (hp.grown hg) hpb)
  obtain ⟨PS, hPS⟩ : ∃ PS, ps.map noPoke = PS := ⟨_, rfl⟩
  have HPK : Hid (∀ p ∈ PS, p.poke = 0) := by
    intro p hpp
    rw [← hPS, List.mem_map] at hpp
    obtain ⟨q, _, rfl⟩ := hpp
    rfl
  have hPL : PS.length = ps.length := by rw [← hPS]; simp
  rw [hPS] at UC
  obtain ⟨n, hn⟩ : ∃ n, ps.length = n := ⟨_, rfl⟩
  rw [hn] at UC hPL hpb ⊢
  have HPL := Lib.hid hPL
  clear hp hPS hn hPL
  obtain ⟨i0, hi0, hz0, hz1, hz2⟩ := info_parts info2
  by_cases hR : R < 0 ∨ 5000 < R
  · have hR2 : R < 0 ∨ (¬ R < 0 ∧ 5000 < R) := by omega
    clear hR
    rcases hR2 with h | ⟨h, h2⟩
    all_goals
      go_enter Try.func5, Try.ntmps5
      go_wp2_with (go_at_call 10; refine (AC.out).mono ?_; rintro ez w1 ⟨rfl, hg1⟩)
      go_ret
      exact ⟨rfl, hg1.out⟩
  have hR1 : ¬ R < 0 := by omega
  have hR2 : ¬ 5000 < R := by omega
  have hR4 : R ≤ 5000 := by omega
  obtain ⟨m, hm⟩ : ∃ m : Nat, R = (m : Int) := ⟨R.toNat, by omega⟩
  subst hm
  have hm5 : m ≤ 5000 := by omega
  clear hR
  have TC : Hid (∀ (w' : World) (g : Nat) (v : Value) (B : Nat), Ils w' (.slice (some ⟨g, 0, none⟩) m m) (List.replicate m 0) → w'.ownsRow B 44 11 v n (flC stC PS) → Calls Try.prog 7 #[.slice (some ⟨g, 0, none⟩) m m, v] w' fun r w2 => ∃ la lc ao n2 c, r = .returned (.tuple #[.slice la n lc, .slice ao n2 c, .bool true]) ∧ Hid (TnsR w2 (.slice la n lc) (runK (openT (List.replicate m 0)) ⟨List.replicate m 0, -1⟩ PS).1) ∧ Hid (w'.grownBy w2 none)) := by
    intro w' g v B hi ho
    obtain ⟨oa, oc, rfl⟩ := own_slice ho
    have hs : SlA 11 stC w' AnyB (.slice oa PS.length oc) PS := by
      have h9 : w'.ownsRow B 44 11 (.slice oa n oc) PS.length (flC stC PS) := by rw [HPL.out]; exact ho
      have h := sla_of_own st_len h9 AnyB (fun _ _ => trivial)
      rw [HPL.out]
      exact h
    have h := take_tns (some ⟨g, 0, none⟩) oa m oc (List.replicate m 0) PS w' (by simpa using hi) hs (by simp; omega) (by rw [HPL.out]; exact hpb)
    rw [run_len, HPL.out, List.length_replicate] at h
    refine h.mono ?_
    rintro r w2 ⟨la, lc, ao, n2, c, rfl, h1, h2, h3⟩
    exact ⟨la, lc, ao, n2, c, rfl, h1, h3⟩
  obtain ⟨XS, hXS⟩ : ∃ XS, (runK (openT (List.replicate m 0)) ⟨List.replicate m 0, -1⟩ PS).1 = XS := ⟨_, rfl⟩
  have HXS := Lib.hid hXS
  simp only [hXS] at TC
  have hXL : XS.length = n := by rw [← hXS, run_len, HPL.out]
  have HXL := Lib.hid hXL
  clear hXS hXL
  go_enter Try.func5, Try.ntmps5
  go_upto_region 9 with (first
    | (go_at_call 10; refine (AC.out).mono ?_; rintro ez w1 ⟨rfl, hg1⟩; have HG1 := Lib.hid hg1.out)
    | (go_at_call 11; refine (UC.out _ HG1.out).mono ?_; rintro ez w2 ⟨v2, rfl, ho2, hg2⟩; have HO2 := Lib.hid ho2.out; have HG2 : Hid (w.grownBy w2 none) := grown_trans HG1.out hg2.out; clear ho2 hg2; obtain ⟨ua, uc, rfl⟩ := own_slice HO2.out)
    | (at_make; refine wpList_make_full _ rfl _ _ 22 rfl w2.heap.size 2 i0 (.int .i64 0) 1 Try.underlying22 hi0 hz0 hz1 _ _ _ _ m rfl rfl rfl rfl (by rw [hz2]; omega) (by unfold maxLen; omega) (Nat.le_refl _) ?_; intro w3 hown3 hg3; have HI3 := Lib.hid (ils_noughts hown3); have HG3 : Hid (w.grownBy w3 none) := grown_trans HG2.out hg3; have HO3 := Lib.hid (own_kept HO2.out hg3); clear hown3 hg3)
    | (go_at_call 7; refine (TC.out _ _ _ _ HI3.out HO3.out).mono ?_; rintro ez w4 ⟨la, lc, ao, n2, c, rfl, ht4, hg4⟩; have HT4 := Lib.hid ht4.out; have HG4 : Hid (w.grownBy w4 none) := grown_trans HG3.out hg4.out; have HO4 := Lib.hid (own_kept HO3.out hg4.out); clear ht4 hg4))
  have HS4 : Hid (SlA 11 stC w4 AnyB (.slice ua n uc) PS) := by
    have h9 : w4.ownsRow w1.heap.size 44 11 (.slice ua n uc) PS.length (flC stC PS) := by rw [HPL.out]; exact HO4.out
    exact sla_of_own st_len h9 AnyB (fun _ _ => trivial)
  have HF0 : Hid (Fits (openT (List.replicate m 0)) (⟨List.replicate m 0, -1⟩ : Dk).words) := fits_openT (fits_zero m)
  have HN0 : Hid ((openT (List.replicate m 0)).s.now = []) := by unfold Hid; rw [fits_open (fits_zero m)]; rfl
  have HB0 : Hid ((openT (List.replicate m 0)).broken = false) := by unfold Hid; rw [fits_open (fits_zero m)]
  have HT0 : Hid (Tos w4 (.slice none 0 0) (openT (List.replicate m 0)).s.now) := by unfold Hid; rw [HN0.out]; exact .inr ⟨none, 0, rfl, rfl⟩
  have HX0 : Hid (XS.drop 0 = (runK (openT (List.replicate m 0)) ⟨List.replicate m 0, -1⟩ (PS.drop 0)).1) := HXS.out.symm
  clear HG3 HG2 HG1 HI3 HO3 HO2 TC UC AC HO4
  go_wp2_with fail
  go_loopw [9, 10, 43] (fun v9 v10 v43 wr => ∃ (k : Nat) (t : Tk) (d : Dk) (wo : Option Addr) (wn wc : Nat), k ≤ n ∧ v9 = .slice wo wn wc ∧ v10 = .bool t.broken ∧ v43 = .int .i64 (k : Int) ∧ Hid (wn = t.s.now.length) ∧ Hid (Fits t d.words) ∧ Hid (XS.drop k = (runK t d (PS.drop k)).1) ∧ Hid (Tos wr (.slice wo wn wc) t.s.now) ∧ Hid (w4.grownBy wr none)) (fun _ _ v43 _ => n - (intOf v43).toNat)
  case atStart => exact ⟨0, openT (List.replicate m 0), ⟨List.replicate m 0, -1⟩, none, 0, 0, Nat.zero_le _, rfl, by rw [HB0.out], rfl, by unfold Hid; rw [HN0.out]; rfl, HF0.out, HX0.out, HT0.out, grown_refl _ _⟩
  case round =>
    obtain ⟨k, t, d, wo, wn, wc, hk, rfl, rfl, rfl, HWN, HFT, HX, HTW, HG⟩ := hrel
    obtain ⟨wz, hwz⟩ : ∃ wz : World, wz = wr := ⟨_, rfl⟩
    subst hwz
    clear HF0 HN0 HB0 HT0 HX0
    by_cases hkn : k = n
    · have hk2 := hkn.symm
      subst hk2
      clear hkn
      go_wp2_with fail
      go_ret
      exact ⟨rfl, grown_trans HG4.out HG.out⟩
    have hkl : (k : Int) < (n : Int) := by omega
    have hkx : k < XS.length := by rw [HXL.out]; omega
    have hkp : k < PS.length := by rw [HPL.out]; omega
    obtain ⟨p, hp⟩ : ∃ p, PS[k]? = some p := ⟨PS[k], List.getElem?_eq_getElem _⟩
    obtain ⟨x, hx⟩ : ∃ x, XS[k]? = some x := ⟨XS[k], List.getElem?_eq_getElem _⟩
    have hst : x = (stepK t d p).2.2 ∧ XS.drop (k + 1) = (runK (stepK t d p).1 (stepK t d p).2.1 (PS.drop (k + 1))).1 := by
      have h := HX.out
      rw [List.drop_eq_getElem_cons hkx, List.drop_eq_getElem_cons hkp, run_cons] at h
      injection h with h1 h2
      obtain ⟨_, e1⟩ := List.getElem?_eq_some_iff.1 hp
      obtain ⟨_, e2⟩ := List.getElem?_eq_some_iff.1 hx
      rw [e1] at h1 h2
      rw [e2] at h1
      exact ⟨h1, h2⟩
    have hp0 : p.poke = 0 := HPK.out p (List.mem_of_getElem? hp)
    have hfit := fits_step HFT.out hp0
    have hkeep := keep_step HFT.out hp0
    rw [← hst.1] at hkeep
    have hd := hst.2
    obtain ⟨t2, ht2⟩ : ∃ t2, (stepK t d p).1 = t2 := ⟨_, rfl⟩
    obtain ⟨d2, hd2⟩ : ∃ d2, (stepK t d p).2.1 = d2 := ⟨_, rfl⟩
    rw [ht2, hd2] at hd hfit
    rw [ht2] at hkeep
    obtain ⟨hk1, hk2, hk3, hk4⟩ := hkeep
    have HFT2 := Lib.hid hfit
    have HX2 := Lib.hid hd
    obtain ⟨bb, bo, rfl, _, hrg⟩ := sla_at HS4.out hp
    obtain ⟨xb, xo, xa, xc, rfl, x0, x1, x2, hxt⟩ := tns_at HT4.out hx
    obtain ⟨OP, ⟨D, N, ⟨ta, tl, tt, tal, to_⟩⟩, PW, PK, WD⟩ := p
    obtain ⟨xe, xt, xts⟩ := x
    simp only at x0 x1 x2 hxt hk1 hk2 hk3 hk4
    obtain ⟨xn, hxn⟩ : ∃ xn, xts.length = xn := ⟨_, rfl⟩
    have HXN := Lib.hid hxn
    rw [hxn] at x2 hxt
    have HXT := Lib.hid (hxt.grown HG.out)
    have HK1 := Lib.hid hk1
    have HK2 := Lib.hid hk2
    have HK3 := Lib.hid hk3
    have HK4 := Lib.hid hk4
    have e0 : wz.cell? ⟨bb, bo + k * 11, none⟩ = some (.bool OP) := grown_cell HG.out (hrg 0 _ rfl) (by simp)
    have e1 : wz.cell? ⟨bb, bo + k * 11 + 1, none⟩ = some (.int .i64 D) := grown_cell HG.out (hrg 1 _ rfl) (by simp)
    have e2 : wz.cell? ⟨bb, bo + k * 11 + 2, none⟩ = some (.int .i64 N) := grown_cell HG.out (hrg 2 _ rfl) (by simp)
    have e3 : wz.cell? ⟨bb, bo + k * 11 + 3, none⟩ = some (.int .i64 ta) := grown_cell HG.out (hrg 3 _ rfl) (by simp)
    have e4 : wz.cell? ⟨bb, bo + k * 11 + 4, none⟩ = some (.int .i64 tl) := grown_cell HG.out (hrg 4 _ rfl) (by simp)
    have e5 : wz.cell? ⟨bb, bo + k * 11 + 5, none⟩ = some (.int .i64 tt) := grown_cell HG.out (hrg 5 _ rfl) (by simp)
    have e6 : wz.cell? ⟨bb, bo + k * 11 + 6, none⟩ = some (.int .i64 tal) := grown_cell HG.out (hrg 6 _ rfl) (by simp)
    have e7 : wz.cell? ⟨bb, bo + k * 11 + 7, none⟩ = some (.int .i64 to_) := grown_cell HG.out (hrg 7 _ rfl) (by simp)
    have e8 : wz.cell? ⟨bb, bo + k * 11 + 8, none⟩ = some (.int .i64 PW) := grown_cell HG.out (hrg 8 _ rfl) (by simp)
    have e9 : wz.cell? ⟨bb, bo + k * 11 + 9, none⟩ = some (.int .i64 PK) := grown_cell HG.out (hrg 9 _ rfl) (by simp)
    have e10 : wz.cell? ⟨bb, bo + k * 11 + 10, none⟩ = some (.int .i64 WD) := grown_cell HG.out (hrg 10 _ rfl) (by simp)
    have y0 := grown_cell HG.out x0 (by simp)
    have y1 := grown_cell HG.out x1 (by simp)
    have y2 := grown_cell HG.out x2 (by simp)
    clear hrg hp hx hst hp0 hfit hd hk1 hk2 hk3 hk4 x0 x1 x2 hxt hxn ht2 hd2 hkx hkp
    obtain ⟨sb, hsb⟩ : ∃ sb, wz.heap.size = sb := ⟨_, rfl⟩
    have HSB := Lib.hid hsb
    obtain ⟨cb, hcb⟩ : ∃ cb, sb + 1 = cb := ⟨_, rfl⟩
    have HCB := Lib.hid hcb
    clear hsb hcb
    go_upto_region 14 with fail
    simp only [HSB.out]
    obtain ⟨w5, hw5⟩ : ∃ w5, wz.alloc (.cells #[.bool OP, .int .i64 D, .int .i64 N, .int .i64 ta, .int .i64 tl, .int .i64 tt, .int .i64 tal, .int .i64 to_, .int .i64 PW, .int .i64 PK, .int .i64 WD] 44) = w5 := ⟨_, rfl⟩
    have HG5 : Hid (wz.grownBy w5 none) := by unfold Hid; rw [← hw5]; exact grown_alloc (grown_refl _ _) _
    have HS5 : Hid (w5.heap[sb]? = some (.cells #[.bool OP, .int .i64 D, .int .i64 N, .int .i64 ta, .int .i64 tl, .int .i64 tt, .int .i64 tal, .int .i64 to_, .int .i64 PW, .int .i64 PK, .int .i64 WD] 44 (0, 0))) := by unfold Hid; rw [← hw5, ← HSB.out]; exact heap_alloc_new _ _
    have HZ5 : Hid (w5.heap.size = cb) := by unfold Hid; rw [← hw5, ← HCB.out, ← HSB.out]; simp
    simp only [hw5]
    clear hw5 e0 e1 e2 e3 e4 e5 e6 e7 e8 e9 e10
    have z0 := grown_cell HG5.out y0 (by simp)
    have z1 := grown_cell HG5.out y1 (by simp)
    have z2 := grown_cell HG5.out y2 (by simp)
    clear y0 y1 y2
    go_upto_region 15 with fail
    simp only [HZ5.out]
    obtain ⟨w6, hw6⟩ : ∃ w6, w5.alloc (.cells #[.int .i64 xe, .int .i64 xt, .slice xa xn xc] 32) = w6 := ⟨_, rfl⟩
    have HG6 : Hid (wz.grownBy w6 none) := by unfold Hid; rw [← hw6]; exact grown_alloc HG5.out _
    have HS6 : Hid (w6.heap[sb]? = some (.cells #[.bool OP, .int .i64 D, .int .i64 N, .int .i64 ta, .int .i64 tl, .int .i64 tt, .int .i64 tal, .int .i64 to_, .int .i64 PW, .int .i64 PK, .int .i64 WD] 44 (0, 0))) := by unfold Hid; rw [← hw6]; exact row_kept (grown_alloc (grown_refl w5 none) _) HS5.out (by simp)
    have HC6 : Hid (w6.heap[cb]? = some (.cells #[.int .i64 xe, .int .i64 xt, .slice xa xn xc] 32 (0, 0))) := by unfold Hid; rw [← hw6, ← HZ5.out]; exact heap_alloc_new _ _
    simp only [hw6]
    clear hw6 z0 z1 z2 HG5 HS5 HZ5
    have s0 := cell_of HS6.out 0
    have s1 := cell_of HS6.out 1
    have c0 := cell_of HC6.out 0
    have c1 := cell_of HC6.out 1
    have c2 := cell_of HC6.out 2
    obtain ⟨tb, htb⟩ : ∃ tb, t.broken = tb := ⟨_, rfl⟩
    have HTB := Lib.hid htb
    simp only [HTB.out] at HK1 HK2 HK4 ⊢
    clear htb
    obtain ⟨b1, hb1⟩ : ∃ b1, (if OP = true then false else tb) = b1 := ⟨_, rfl⟩
    have HB1 := Lib.hid hb1
    rw [hb1] at HK4
    clear hb1
    go_upto_if 53 with fail
    go_cut [10] from 52 to 95 (fun c wx => c = .bool b1 ∧ w6 = wx)
    case first =>
      cases OP with
      | false =>
        have HE : Hid (b1 = tb) := HB1.out.symm
        go_wp2_with fail
        go_meet
        exact ⟨by rw [HE.out], rfl⟩
      | true =>
        have HE : Hid (b1 = false) := HB1.out.symm
        go_wp2_with fail
        go_meet
        exact ⟨by rw [HE.out], rfl⟩
    obtain ⟨rfl, hwc⟩ := hcut
    subst hwc
    obtain ⟨w7, hw7⟩ : ∃ w7 : World, w7 = w6 := ⟨_, rfl⟩
    subst hw7
    have hwk : IntKind.i64.wrap ((k : Int) + 1) = (k : Int) + 1 := IntWalk.i64_in _ (by omega)
    have HXB : Hid (xts.length ≤ 1099511627776) := by
      unfold Hid
      have h := HK3.out
      injection h with _ _ h
      rw [h]
      split
      · simp
      · have := HFT2.out.good.s.big _ HFT2.out.good.s.now_mem
        omega
    by_cases hD : D = 0
    · cases b1 with
      | true =>
        have HSB2 : Hid (seenB tb ⟨OP, ⟨D, N, ⟨ta, tl, tt, tal, to_⟩⟩, PW, PK, WD⟩ ⟨xe, xt, xts⟩ = true) := by unfold Hid seenB; simp only; rw [HB1.out]; simp [hD]
        have HSW2 : Hid (seenW tb t.s.now ⟨OP, ⟨D, N, ⟨ta, tl, tt, tal, to_⟩⟩, PW, PK, WD⟩ ⟨xe, xt, xts⟩ = t.s.now) := by unfold Hid seenW; simp only; rw [HB1.out]; simp [hD]
        subst hD
        have HQ1 : Hid (t2.broken = true) := by unfold Hid; rw [HK1.out, HSB2.out]
        have HQ2 : Hid (t2.s.now = t.s.now) := by unfold Hid; rw [HK2.out, HSW2.out]
        have h9 := HK3.out
        rw [HQ1.out] at h9
        simp only [Tn.mk.injEq, true_and, if_true, if_false, Bool.false_eq_true] at h9
        obtain ⟨hxt9, hxs9⟩ := h9
        subst hxt9
        clear hxs9
        go_wp2_with fail
        refine ⟨?_, by simp [intOf]; omega⟩
        first
          | exact ⟨k + 1, t2, d2, wo, wn, wc, by omega, rfl, by rw [HQ1.out], rfl, by rw [HQ2.out]; exact HWN.out, HFT2.out, HX2.out, by rw [HQ2.out]; exact HTW.out.grown (HG6.out), grown_trans HG.out HG6.out⟩
          | (repeat apply Exists.intro
             refine ⟨?_, rfl⟩
             exact ⟨k + 1, t2, d2, wo, wn, wc, by omega, rfl, by rw [HQ1.out], rfl, by rw [HQ2.out]; exact HWN.out, HFT2.out, HX2.out, by rw [HQ2.out]; exact HTW.out.grown (HG6.out), grown_trans HG.out HG6.out⟩)
      | false =>
        have HSB2 : Hid (seenB tb ⟨OP, ⟨D, N, ⟨ta, tl, tt, tal, to_⟩⟩, PW, PK, WD⟩ ⟨xe, xt, xts⟩ = false) := by unfold Hid seenB; simp only; rw [HB1.out]; simp [hD]
        have HSW2 : Hid (seenW tb t.s.now ⟨OP, ⟨D, N, ⟨ta, tl, tt, tal, to_⟩⟩, PW, PK, WD⟩ ⟨xe, xt, xts⟩ = t.s.now) := by unfold Hid seenW; simp only; rw [HB1.out]; simp [hD]
        subst hD
        have HQ1 : Hid (t2.broken = false) := by unfold Hid; rw [HK1.out, HSB2.out]
        have HQ2 : Hid (t2.s.now = t.s.now) := by unfold Hid; rw [HK2.out, HSW2.out]
        have h9 := HK3.out
        rw [HQ1.out] at h9
        simp only [Tn.mk.injEq, true_and, if_true, if_false, Bool.false_eq_true] at h9
        obtain ⟨hxt9, hxs9⟩ := h9
        subst hxt9
        have HXE : Hid (xts = t.s.now) := by unfold Hid; rw [hxs9, HQ2.out]
        have SQ := Lib.hid (fun (w' : World) (hg : wz.grownBy w' none) => same_at xa xn xc wo wn wc xts w' HXN.out (by rw [HXE.out]; exact HWN.out.symm) (HXT.out.grown hg) (by rw [HXE.out]; exact HTW.out.grown hg) HXB.out)
        clear hxs9
        go_wp2_with (go_at_call 9; refine (SQ.out _ HG6.out).mono ?_; rintro ez w8 ⟨rfl, hg8⟩)
        refine ⟨?_, by simp [intOf]; omega⟩
        first
          | exact ⟨k + 1, t2, d2, wo, wn, wc, by omega, rfl, by rw [HQ1.out], rfl, by rw [HQ2.out]; exact HWN.out, HFT2.out, HX2.out, by rw [HQ2.out]; exact HTW.out.grown (grown_trans HG6.out hg8.out), grown_trans HG.out (grown_trans HG6.out hg8.out)⟩
          | (repeat apply Exists.intro
             refine ⟨?_, rfl⟩
             exact ⟨k + 1, t2, d2, wo, wn, wc, by omega, rfl, by rw [HQ1.out], rfl, by rw [HQ2.out]; exact HWN.out, HFT2.out, HX2.out, by rw [HQ2.out]; exact HTW.out.grown (grown_trans HG6.out hg8.out), grown_trans HG.out (grown_trans HG6.out hg8.out)⟩)
    cases b1 with
    | true =>
      by_cases hx0 : xe = 0
      · have h := HK4.out hD hx0
        cases h
      have hDb : (D != 0) = true := by simp [hD]
      have hx0b : (xe == 0) = false := by simp [hx0]
      have HSB2 : Hid (seenB tb ⟨OP, ⟨D, N, ⟨ta, tl, tt, tal, to_⟩⟩, PW, PK, WD⟩ ⟨xe, xt, xts⟩ = true) := by unfold Hid seenB; simp only; rw [HB1.out]; simp [hD, hx0]
      have HSW2 : Hid (seenW tb t.s.now ⟨OP, ⟨D, N, ⟨ta, tl, tt, tal, to_⟩⟩, PW, PK, WD⟩ ⟨xe, xt, xts⟩ = t.s.now) := by unfold Hid seenW; simp only; rw [HB1.out]; simp [hD, hx0]
      have HQ1 : Hid (t2.broken = true) := by unfold Hid; rw [HK1.out, HSB2.out]
      have HQ2 : Hid (t2.s.now = t.s.now) := by unfold Hid; rw [HK2.out, HSW2.out]
      have h9 := HK3.out
      rw [HQ1.out] at h9
      simp only [Tn.mk.injEq, true_and, if_true, if_false, Bool.false_eq_true] at h9
      obtain ⟨hxt9, hxs9⟩ := h9
      subst hxt9
      clear hxs9
      go_wp2_with fail
      refine ⟨?_, by simp [intOf]; omega⟩
      first
        | exact ⟨k + 1, t2, d2, wo, wn, wc, by omega, rfl, by rw [HQ1.out], rfl, by rw [HQ2.out]; exact HWN.out, HFT2.out, HX2.out, by rw [HQ2.out]; exact HTW.out.grown (HG6.out), grown_trans HG.out HG6.out⟩
        | (repeat apply Exists.intro
           refine ⟨?_, rfl⟩
           exact ⟨k + 1, t2, d2, wo, wn, wc, by omega, rfl, by rw [HQ1.out], rfl, by rw [HQ2.out]; exact HWN.out, HFT2.out, HX2.out, by rw [HQ2.out]; exact HTW.out.grown (HG6.out), grown_trans HG.out HG6.out⟩)
    | false =>
      have hDb : (D != 0) = true := by simp [hD]
      by_cases hx11 : xe = 11
      · have HSB2 : Hid (seenB tb ⟨OP, ⟨D, N, ⟨ta, tl, tt, tal, to_⟩⟩, PW, PK, WD⟩ ⟨xe, xt, xts⟩ = true) := by unfold Hid seenB; simp only; rw [HB1.out]; simp [hD, hx11]
        have HSW2 : Hid (seenW tb t.s.now ⟨OP, ⟨D, N, ⟨ta, tl, tt, tal, to_⟩⟩, PW, PK, WD⟩ ⟨xe, xt, xts⟩ = t.s.now) := by unfold Hid seenW; simp only; rw [HB1.out]; simp [hD, hx11]
        subst hx11
        have HQ1 : Hid (t2.broken = true) := by unfold Hid; rw [HK1.out, HSB2.out]
        have HQ2 : Hid (t2.s.now = t.s.now) := by unfold Hid; rw [HK2.out, HSW2.out]
        have h9 := HK3.out
        rw [HQ1.out] at h9
        simp only [Tn.mk.injEq, true_and, if_true, if_false, Bool.false_eq_true] at h9
        obtain ⟨hxt9, hxs9⟩ := h9
        subst hxt9
        clear hxs9
        go_wp2_with fail
        refine ⟨?_, by simp [intOf]; omega⟩
        first
          | exact ⟨k + 1, t2, d2, wo, wn, wc, by omega, rfl, by rw [HQ1.out], rfl, by rw [HQ2.out]; exact HWN.out, HFT2.out, HX2.out, by rw [HQ2.out]; exact HTW.out.grown (HG6.out), grown_trans HG.out HG6.out⟩
          | (repeat apply Exists.intro
             refine ⟨?_, rfl⟩
             exact ⟨k + 1, t2, d2, wo, wn, wc, by omega, rfl, by rw [HQ1.out], rfl, by rw [HQ2.out]; exact HWN.out, HFT2.out, HX2.out, by rw [HQ2.out]; exact HTW.out.grown (HG6.out), grown_trans HG.out HG6.out⟩)
      have hx11b : (xe == 11) = false := by simp [hx11]
      by_cases hx0 : xe = 0
      · have HSB2 : Hid (seenB tb ⟨OP, ⟨D, N, ⟨ta, tl, tt, tal, to_⟩⟩, PW, PK, WD⟩ ⟨xe, xt, xts⟩ = false) := by unfold Hid seenB; simp only; rw [HB1.out]; simp [hD, hx0, hx11]
        have HSW2 : Hid (seenW tb t.s.now ⟨OP, ⟨D, N, ⟨ta, tl, tt, tal, to_⟩⟩, PW, PK, WD⟩ ⟨xe, xt, xts⟩ = xts) := by unfold Hid seenW; simp only; rw [HB1.out]; simp [hD, hx0, hx11]
        subst hx0
        have HQ1 : Hid (t2.broken = false) := by unfold Hid; rw [HK1.out, HSB2.out]
        have HQ2 : Hid (t2.s.now = xts) := by unfold Hid; rw [HK2.out, HSW2.out]
        have h9 := HK3.out
        rw [HQ1.out] at h9
        simp only [Tn.mk.injEq, true_and, if_true, if_false, Bool.false_eq_true] at h9
        obtain ⟨hxt9, hxs9⟩ := h9
        subst hxt9
        have SQ := Lib.hid (fun (w' : World) (hg : wz.grownBy w' none) => same_at xa xn xc xa xn xc xts w' HXN.out HXN.out (HXT.out.grown hg) (HXT.out.grown hg) HXB.out)
        clear hxs9
        go_wp2_with (go_at_call 9; refine (SQ.out _ HG6.out).mono ?_; rintro ez w8 ⟨rfl, hg8⟩)
        refine ⟨?_, by simp [intOf]; omega⟩
        first
          | exact ⟨k + 1, t2, d2, xa, xn, xc, by omega, rfl, by rw [HQ1.out], rfl, by rw [HQ2.out]; exact HXN.out.symm, HFT2.out, HX2.out, by rw [HQ2.out]; exact HXT.out.grown (grown_trans HG6.out hg8.out), grown_trans HG.out (grown_trans HG6.out hg8.out)⟩
          | (repeat apply Exists.intro
             refine ⟨?_, rfl⟩
             exact ⟨k + 1, t2, d2, xa, xn, xc, by omega, rfl, by rw [HQ1.out], rfl, by rw [HQ2.out]; exact HXN.out.symm, HFT2.out, HX2.out, by rw [HQ2.out]; exact HXT.out.grown (grown_trans HG6.out hg8.out), grown_trans HG.out (grown_trans HG6.out hg8.out)⟩)
      have hx0b : (xe == 0) = false := by simp [hx0]
      have HSB2 : Hid (seenB tb ⟨OP, ⟨D, N, ⟨ta, tl, tt, tal, to_⟩⟩, PW, PK, WD⟩ ⟨xe, xt, xts⟩ = false) := by unfold Hid seenB; simp only; rw [HB1.out]; simp [hD, hx0, hx11]
      have HSW2 : Hid (seenW tb t.s.now ⟨OP, ⟨D, N, ⟨ta, tl, tt, tal, to_⟩⟩, PW, PK, WD⟩ ⟨xe, xt, xts⟩ = t.s.now) := by unfold Hid seenW; simp only; rw [HB1.out]; simp [hD, hx0, hx11]
      have HQ1 : Hid (t2.broken = false) := by unfold Hid; rw [HK1.out, HSB2.out]
      have HQ2 : Hid (t2.s.now = t.s.now) := by unfold Hid; rw [HK2.out, HSW2.out]
      have h9 := HK3.out
      rw [HQ1.out] at h9
      simp only [Tn.mk.injEq, true_and, if_true, if_false, Bool.false_eq_true] at h9
      obtain ⟨hxt9, hxs9⟩ := h9
      subst hxt9
      have HXE : Hid (xts = t.s.now) := by unfold Hid; rw [hxs9, HQ2.out]
      have SQ := Lib.hid (fun (w' : World) (hg : wz.grownBy w' none) => same_at xa xn xc wo wn wc xts w' HXN.out (by rw [HXE.out]; exact HWN.out.symm) (HXT.out.grown hg) (by rw [HXE.out]; exact HTW.out.grown hg) HXB.out)
      clear hxs9
      go_wp2_with (go_at_call 9; refine (SQ.out _ HG6.out).mono ?_; rintro ez w8 ⟨rfl, hg8⟩)
      refine ⟨?_, by simp [intOf]; omega⟩
      first
        | exact ⟨k + 1, t2, d2, wo, wn, wc, by omega, rfl, by rw [HQ1.out], rfl, by rw [HQ2.out]; exact HWN.out, HFT2.out, HX2.out, by rw [HQ2.out]; exact HTW.out.grown (grown_trans HG6.out hg8.out), grown_trans HG.out (grown_trans HG6.out hg8.out)⟩
        | (repeat apply Exists.intro
           refine ⟨?_, rfl⟩
           exact ⟨k + 1, t2, d2, wo, wn, wc, by omega, rfl, by rw [HQ1.out], rfl, by rw [HQ2.out]; exact HWN.out, HFT2.out, HX2.out, by rw [HQ2.out]; exact HTW.out.grown (grown_trans HG6.out hg8.out), grown_trans HG.out (grown_trans HG6.out hg8.out)⟩)
end Go.Proofs.Ytdnmimfichijgaa.KKeep
