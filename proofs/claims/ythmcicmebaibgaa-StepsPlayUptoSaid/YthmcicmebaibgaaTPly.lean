/- Play: the walk. -/
import Derived.Test.YthmcicmebaibgaaTPm
import Derived.Test.YthmcicmebaibgaaTApp
namespace Go.Proofs.Ythmcicmebaibgaa.TPly
open Go Go.RowKit Go.Proofs.Ythmcicmebaibgaa.WMod Go.Proofs.Ythmcicmebaibgaa.TMod Go.Proofs.Ythmcicmebaibgaa.TRead Go.Proofs.Ythmcicmebaibgaa.TSz Go.Proofs.Ythmcicmebaibgaa.TEv Go.Proofs.Ythmcicmebaibgaa.TApp Go.Proofs.Ythmcicmebaibgaa.TWin Go.Proofs.Ythmcicmebaibgaa.TPlr Go.Proofs.Ythmcicmebaibgaa.TNext Go.Proofs.Ythmcicmebaibgaa.TPm Go.Proofs.Ythmcicmebaibgaa.TSame Go.Proofs.Ythmcicmebaibgaa.Opn Go.Proofs.Ythmcicmebaibgaa.Hp Go.Proofs.Ythmcicmebaibgaa.Rd Go.Proofs.Ythmcicmebaibgaa.TWWrong
set_option linter.unusedVariables false
set_option linter.unusedSimpArgs false

theorem info36 : (Try.prog.info? 36).map (fun i => (i.zero, i.size, i.bytes)) = some (some (.agg #[.int .i64 0, .int .i64 0, .slice none 0 0, .int .i64 0]), 4, 48) := by kernel_rfl

def PlayR (f : For) (ts : List Tn) (e : Ending) (w' : World) : Prop :=
  (longE f ≠ 0 ∧ e = .returned (.tuple #[.slice none 0 0, .int .i64 (longE f)])) ∨ (longE f = 0 ∧ ∃ v, e = .returned (.tuple #[v, .int .i64 0]) ∧ Pls w' v (playR f 0 ts))

theorem grown_own {a b c : World} {r : Option Nat} {B : Nat} {e : TypeId} {sz : Nat} {v : Value} {n : Nat} {xs : List Value} (h : a.grownBy b r) (ho : b.ownsRow B e sz v n xs) (hB : a.heap.size ≤ B) (g : b.grownBy c v.ownBlock) : a.grownBy c r := by
  cases hv : v.ownBlock with
  | none => rw [hv] at g; exact grown_trans h (grown_none g _)
  | some k => rw [hv] at g; exact grown_from h g (.inl (Nat.le_trans hB (own_base ho hv).1))

set_option maxHeartbeats 8000000 in
set_option maxRecDepth 100000 in
theorem Play_calls (f : For) (v : Value) (tao : Option Addr) (tc : Nat) (ts : List Tn) (w : World) (hsec : Secs w v f) (hts : Tns w (.slice tao ts.length tc) ts) (hbig : ts.length ≤ 1099511627776) :
    Calls Try.prog 9 #[v, .slice tao ts.length tc] w fun e w' => Hid (PlayR f ts e w') ∧ Hid (w.grownBy w' none) := by
  obtain ⟨i0, hi, hz0, hz1, hz2⟩ := info_parts info36
  have NC := Lib.hid (New_calls f v w hsec)
  obtain ⟨n, hn⟩ : ∃ n, ts.length = n := ⟨_, rfl⟩
  have HN := Lib.hid hn
  have HTS := Lib.hid hts
  have HBIG := Lib.hid hbig
  have hsm : (n : Int) ≤ 1099511627776 := by omega
  have hsm2 : n ≤ 1099511627776 := by omega
  rw [hn]
  clear hsec hts hbig hn
  by_cases h0 : longE f = 0
  · obtain ⟨hfine, _, hd1, hd0, hsz⟩ := fine_of h0
    have H0 := Lib.hid h0
    have HFINE := Lib.hid hfine
    have HD1 := Lib.hid hd1
    have HSZ := Lib.hid hsz
    clear h0 hfine hd1 hd0 hsz
    go_enter Try.func9, Try.ntmps9
    go_upto_region 2 with (go_at_call 15; refine (NC.out).mono ?_; rintro e1 w1 ⟨hnew, hg1⟩; rcases hnew.out with ⟨hx, _⟩ | ⟨_, pb, u, hp1, hp2, rfl, hrp, hszv⟩; · exact absurd H0.out hx)
    obtain ⟨wN, rfl⟩ : ∃ wN : World, wN = w1 := ⟨_, rfl⟩
    obtain ⟨ax, cx, rfl⟩ := szv_open hszv
    have HRP := Lib.hid hrp
    have HSV := Lib.hid hszv
    have HP1 := Lib.hid hp1
    obtain ⟨B, hB⟩ : ∃ B, wN.heap.size = B := ⟨_, rfl⟩
    have HB := Lib.hid hB
    rw [hB] at hp2 HSV
    obtain ⟨DF, hDF⟩ : ∃ DF, dur f = DF := ⟨_, rfl⟩
    rw [hDF] at HRP
    clear hrp hszv hB hDF hp1 hnew
    trace "new"
    go_wp2_with fail
    go_loopw [8, 22] (fun v8 v22 wr => ∃ (i : Nat) (at_ : Int) (cs : List Value), i ≤ n ∧ v22 = .int .i64 (i : Int) ∧ 0 ≤ at_ ∧ at_ ≤ 1125899906842624 ∧ Hid (atR f 0 (ts.take i) = at_) ∧ Hid (wr.heap[pb]? = some (.cells #[.slice ax f.len cx, .int .i64 DF, .int .i64 at_] 64 (0, 0))) ∧ Hid (wN.grownBy wr (some pb)) ∧ Hid (wr.ownsRow B 36 4 v8 i cs) ∧ Hid (PlE wr (fun b => B ≤ b ∧ b < wr.heap.size ∧ v8.ownBlock ≠ some b) (playR f 0 (ts.take i)) cs)) (fun _ v22 _ => n - (intOf v22).toNat)
    case atStart => exact ⟨0, 0, [], Nat.zero_le _, rfl, by omega, by omega, rfl, HRP.out, grown_refl _ _, World.ownsRow_nil _ _ _ _, PlE.zero _ _⟩
    case round =>
      obtain ⟨i, at_, cs, hi1, rfl, ha0, ha1, HAT, HRR, HGN, HO, HE⟩ := hrel
      have HGW : Hid (w.grownBy wr none) := grown_from hg1.out HGN.out (.inl HP1.out)
      by_cases hie : i = n
      · have HRES : Hid (Pls wr u8 (playR f 0 ts)) := by
          have h := HE.out
          have h2 := HO.out
          unfold Hid at h h2 ⊢
          rw [hie, ← HN.out, List.take_length] at h
          rw [hie, ← HN.out, ← playR_len f ts 0] at h2
          exact h.pls h2
        subst hie
        go_wp2_with fail
        go_ret2
        exact ⟨.inr ⟨H0.out, _, rfl, HRES.out⟩, HGW.out⟩
      have hin : i < n := by omega
      have hin2 : (i : Int) < (n : Int) := by omega
      obtain ⟨tt, htt⟩ : ∃ tt, ts[i]? = some tt := ⟨ts[i]'(by have := HN.out; unfold Hid at this; omega), List.getElem?_eq_getElem _⟩
      obtain ⟨tb, to_, rfl, ht0, ht1⟩ := tns_at HTS.out htt
      have c0 := grown_cell HGW.out ht0 (by simp)
      have c1 := grown_cell HGW.out ht1 (by simp)
      have HTAKE : Hid (ts.take (i + 1) = ts.take i ++ [tt]) := by unfold Hid; rw [List.take_add_one, htt]; rfl
      have HPS : Hid (playR f 0 (ts.take (i + 1)) = playR f 0 (ts.take i) ++ [turnR f at_ tt]) := by unfold Hid; rw [HTAKE.out, playR_snoc, HAT.out]
      have HAS : Hid (atR f 0 (ts.take (i + 1)) = (turnR f at_ tt).at_) := by unfold Hid; rw [HTAKE.out, atR_snoc, HAT.out]
      have hta := turnR_at (f := f) (t := tt) ha0 ha1
      have hsa := seekA_at (t := tt) ha0 ha1
      obtain ⟨A1, hA1⟩ : ∃ A1, seekA at_ tt = A1 := ⟨_, rfl⟩
      obtain ⟨sE, hsE⟩ : ∃ sE, seekE tt = sE := ⟨_, rfl⟩
      obtain ⟨nE, hnE⟩ : ∃ nE, nextR f A1 tt.ticks = nE := ⟨_, rfl⟩
      have HTR : Hid (turnR f at_ tt = ⟨sE, nE.2.2, nE.1, nE.2.1⟩) := by unfold Hid turnR; rw [hA1, hsE, hnE]
      rw [HTR.out] at hta HPS HAS
      rw [hA1] at hsa
      obtain ⟨sk, tk⟩ := tt
      simp only at c0 c1 hnE hta
      have HA1 := Lib.hid hA1
      have HsE := Lib.hid hsE
      have HSR : Hid (SzV wr (fun b => b < B ∧ b ≠ pb) (.slice ax f.len cx) f) := HSV.out.kept HGN.out (fun b hb hA => by injection hb with hb; omega)
      obtain ⟨fl, hfl⟩ : ∃ fl, f.len = fl := ⟨_, rfl⟩
      clear htt ht0 ht1 HTAKE HTR hA1 hsE
      obtain ⟨sa, hsa2⟩ : ∃ sa, wr.heap.size = sa := ⟨_, rfl⟩
      have HSA := Lib.hid hsa2
      clear hsa2
      go_upto_region 9 with fail
      simp only [HSA.out]
      obtain ⟨sb, hsb⟩ : ∃ sb, sa + 1 = sb := ⟨_, rfl⟩
      have HSB := Lib.hid hsb
      have hsbw : wr.heap.size ≤ sb := by rw [HSA.out]; omega
      have hpbw : pb < wr.heap.size := lt_of HRR.out
      obtain ⟨wA, hwA⟩ : ∃ wA, (wr.alloc (.cells #[.int .i64 sk, .int .i64 tk] 31)).alloc (.cells #[.int .i64 0, .int .i64 0, .slice none 0 0, .int .i64 0] 36) = wA := ⟨_, rfl⟩
      have HGA : Hid (wr.grownBy wA none) := by unfold Hid; rw [← hwA]; exact grown_alloc (grown_alloc (grown_refl _ _) _) _
      have HRDA : Hid (wA.heap[sb]? = some (.cells #[.int .i64 0, .int .i64 0, .slice none 0 0, .int .i64 0] 36 (0, 0))) := by
        unfold Hid
        rw [← hwA, ← hsb, ← HSA.out]
        have := heap_alloc_new (wr.alloc (.cells #[.int .i64 sk, .int .i64 tk] 31)) (.cells #[.int .i64 0, .int .i64 0, .slice none 0 0, .int .i64 0] 36)
        simpa using this
      have HRTA : Hid (wA.heap[sa]? = some (.cells #[.int .i64 sk, .int .i64 tk] 31 (0, 0))) := by
        unfold Hid
        rw [← hwA, ← HSA.out]
        exact row_kept (grown_alloc (grown_refl _ none) _) (heap_alloc_new wr _) (by simp)
      simp only [hwA]
      clear hwA c0 c1
      have HRPA : Hid (wA.heap[pb]? = some (.cells #[.slice ax f.len cx, .int .i64 DF, .int .i64 at_] 64 (0, 0))) := row_kept HGA.out HRR.out (by simp)
      try simp only [hsb]
      rw [hfl] at HRPA
      have hsasb : sa < sb := by omega
      have hpsa : pb < sa := by have := HSA.out; unfold Hid at this; omega
      clear hsb
      have p0 := cell_of HRTA.out 0
      have p1 := cell_of HRTA.out 1
      by_cases hk : sk < 0
      · have HA2 : Hid (A1 = at_) := by unfold Hid; rw [← HA1.out]; unfold seekA; rw [if_pos hk]
        have HE2 : Hid (sE = 0) := by unfold Hid; rw [← HsE.out]; unfold seekE; rw [if_pos hk]
        go_upto_region 11 with fail
        obtain ⟨wS, hwS⟩ : ∃ wS : World, wS = wA := ⟨_, rfl⟩
        subst hwS
        have HRTS := HRTA
        have HRDS : Hid (wS.heap[sb]? = some (.cells #[.int .i64 sE, .int .i64 0, .slice none 0 0, .int .i64 0] 36 (0, 0))) := by unfold Hid; rw [HE2.out]; exact HRDA.out
        have HRPS : Hid (wS.heap[pb]? = some (.cells #[.slice ax f.len cx, .int .i64 DF, .int .i64 A1] 64 (0, 0))) := by unfold Hid; rw [HA2.out, hfl]; exact HRPA.out
        have HGS : Hid (wr.grownBy wS (some pb)) := grown_none HGA.out _
        clear HRTA HRDA HRPA HGA
        -- behind Seek
        clear p0 p1
        have t1 := cell_of HRTS.out 1
        have hszs : SzV wS (fun b => b < B ∧ b ≠ pb) (.slice ax f.len cx) f := HSR.out.kept HGS.out (fun b hb hA => by injection hb with hb; omega)
        have XC := Lib.hid (Next_calls pb ax cx f DF A1 tk (fun b => b < B ∧ b ≠ pb) wS HRPS.out hszs HFINE.out HD1.out HSZ.out hsa.1 hsa.2)
        rw [hfl] at XC
        go_upto_region 12 with (go_at_call 17; refine (XC.out).mono ?_; rintro e3 w3 hn3; have hq3 : Hid (NextR pb (.slice ax fl cx) f DF A1 tk wS e3 w3) := hn3; obtain ⟨v3, rfl, hev3, hg3, hr3⟩ := hq3.out; rw [hnE] at hev3 hr3 ⊢; have he3 : Evs w3 v3 nE.1 := EvsA.evs hev3; obtain ⟨a3, c3, rfl⟩ := evs_len he3; have HEV3 := Lib.hid hev3; have HG3 := Lib.hid hg3; have HR3 := Lib.hid hr3; clear hn3 hq3 he3 hev3 hg3 hr3; have HRD3 : Hid (w3.heap[sb]? = some (.cells #[.int .i64 sE, .int .i64 0, .slice none 0 0, .int .i64 0] 36 (0, 0))) := row_kept HG3.out HRDS.out (by simp; omega); have d2 := cell_of HRD3.out 2; have f2 := free_of HRD3.out 2; have d1 := cell_of HRD3.out 1; have f1 := free_of HRD3.out 1)
        obtain ⟨wy, rfl⟩ : ∃ wy : World, wy = w3 := ⟨_, rfl⟩
        obtain ⟨xs3, at3, er3⟩ := nE
        simp only at HEV3 HR3 HPS HAS hta d1 d2 ⊢
        obtain ⟨ln3, hln3⟩ : ∃ ln3, xs3.length = ln3 := ⟨_, rfl⟩
        have HLN := Lib.hid hln3
        rw [hln3] at HEV3 ⊢
        clear hln3
        obtain ⟨wU, hwU⟩ : ∃ wU, (wy.setCell ⟨sb, 2, none⟩ (.slice a3 ln3 c3)).setCell ⟨sb, 1, none⟩ (.int .i64 er3) = wU := ⟨_, rfl⟩
        have HRDU : Hid (wU.heap[sb]? = some (.cells #[.int .i64 sE, .int .i64 er3, .slice a3 ln3 c3, .int .i64 0] 36 (0, 0))) := by
          unfold Hid
          rw [← hwU, set_self (set_self HRD3.out _)]
          simp
        have HGU : Hid (wy.grownBy wU (some sb)) := by
          unfold Hid
          rw [← hwU]
          exact grown_set (p := ⟨sb, 1, none⟩) (grown_set (p := ⟨sb, 2, none⟩) (grown_refl _ _) (.inl rfl) _) (.inl rfl) _
        simp only [hwU]
        clear hwU d1 d2 f1 f2
        have HRPU : Hid (wU.heap[pb]? = some (.cells #[.slice ax fl cx, .int .i64 DF, .int .i64 at3] 64 (0, 0))) := row_kept HGU.out HR3.out (by simp; omega)
        have HEVU : Hid (EvsA wU (fun q => wS.heap.size ≤ q ∧ q < wU.heap.size) (.slice a3 ln3 c3) xs3) := by
          have hs := HGU.out.size
          refine (HEV3.out.kept HGU.out (fun b hb hA => ?_)).mono (fun b hA => ⟨hA.1, by omega⟩)
          injection hb with hb
          have := lt_of HRDS.out
          omega
        have HGRU : Hid (wr.grownBy wU (some pb)) := by
          unfold Hid
          exact grown_from (grown_trans HGS.out HG3.out) HGU.out (.inl hsbw)
        have AC := Lib.hid (At_calls pb (.slice ax fl cx) DF at3 wU HRPU.out)
        have d3 := cell_of HRDU.out 3
        have f3 := free_of HRDU.out 3
        go_upto_region 13 with (go_at_call 18; refine (AC.out).mono ?_; rintro e4 w4 ⟨rfl, rfl⟩)
        obtain ⟨wV, hwV⟩ : ∃ wV, wU.setCell ⟨sb, 3, none⟩ (.int .i64 at3) = wV := ⟨_, rfl⟩
        have HRDV : Hid (wV.heap[sb]? = some (.cells #[.int .i64 sE, .int .i64 er3, .slice a3 ln3 c3, .int .i64 at3] 36 (0, 0))) := by
          unfold Hid
          rw [← hwV, set_self HRDU.out]
          simp
        have HGV : Hid (wU.grownBy wV (some sb)) := by
          unfold Hid
          rw [← hwV]
          exact grown_set (p := ⟨sb, 3, none⟩) (grown_refl _ _) (.inl rfl) _
        simp only [hwV]
        clear hwV d3 f3 t1
        have HRPV : Hid (wV.heap[pb]? = some (.cells #[.slice ax f.len cx, .int .i64 DF, .int .i64 at3] 64 (0, 0))) := by
          unfold Hid
          rw [hfl]
          exact row_kept HGV.out HRPU.out (by simp; omega)
        have HEVV : Hid (EvsA wV (fun q => wS.heap.size ≤ q ∧ q < wV.heap.size) (.slice a3 ln3 c3) xs3) := by
          have hs := HGV.out.size
          refine (HEVU.out.kept HGV.out (fun b hb hA => ?_)).mono (fun b hA => ⟨hA.1, by omega⟩)
          injection hb with hb
          have := lt_of HRDS.out
          omega
        have HGRV : Hid (wr.grownBy wV (some pb)) := by
          unfold Hid
          exact grown_from HGRU.out HGV.out (.inl hsbw)
        have HOV : Hid (wV.ownsRow B 36 4 u8 i cs) := HO.out.kept HGRV.out (.inr (fun h => by have := own_base HO.out h; omega))
        have d0 := cell_of HRDV.out 0
        have d1 := cell_of HRDV.out 1
        have d2 := cell_of HRDV.out 2
        have d3 := cell_of HRDV.out 3
        have HBW : Hid (B ≤ wr.heap.size) := by unfold Hid; rw [← HB.out]; exact HGN.out.size
        go_upto_region 14 with (at_builtin; refine append_one rfl _ _ 27 rfl B 36 i0 _ 4 48 Try.underlying27 hi hz0 hz1 hz2 rfl (by decide) u8 i cs rfl wV _ _ HOV.out rfl rfl (by simp [Value.oneCell']) (by unfold maxLen; omega) (by omega) (by have h1 := HBW.out; have h2 := HGRV.out.size; unfold Hid at h1; omega) ?_; intro v9 w9 hown9 hg9 hat9)
        have HGN9 : Hid (wN.grownBy w9 (some pb)) := grown_own (grown_trans HGN.out HGRV.out) HOV.out (by rw [HB.out]; exact Nat.le_refl _) hg9.out
        have HRP9 : Hid (w9.heap[pb]? = some (.cells #[.slice ax f.len cx, .int .i64 DF, .int .i64 at3] 64 (0, 0))) := row_kept hg9.out HRPV.out (fun h => by have := own_base HO.out h.symm; omega)
        have HE9 : Hid (PlE w9 (fun b => B ≤ b ∧ b < w9.heap.size ∧ v9.ownBlock ≠ some b) (playR f 0 (ts.take (i + 1))) (cs ++ [.int .i64 sE, .int .i64 er3, .slice a3 ln3 c3, .int .i64 at3])) := by
          unfold Hid
          have s1 := HBW.out
          have s2 := HGRV.out.size
          have s3 := hg9.out.size
          have s4 := HGS.out.size
          unfold Hid at s1
          have hob : ∀ q, u8.ownBlock = some q → B ≤ q ∧ q < wr.heap.size := fun q hq => own_base HO.out hq
          have hnx : ∀ q, q < wV.heap.size → u8.ownBlock ≠ some q → v9.ownBlock ≠ some q := fun q hq hu hv => by
            rcases hat9.out with h | ⟨q2, h, h2⟩
            · exact hu (by rw [← h]; exact hv)
            · rw [h] at hv; injection hv with hv; omega
          rw [HPS.out]
          refine PlE.snoc (p := ⟨sE, er3, xs3, at3⟩) ?_ ?_
          · refine ((HE.out.kept HGRV.out (fun b hb hA => by injection hb with hb; omega)).kept hg9.out (fun b hb hA => hA.2.2 hb)).mono (fun b hA => ?_)
            exact ⟨hA.1, by have := hA.2.1; omega, hnx b (by have := hA.2.1; omega) hA.2.2⟩
          · refine (HEVV.out.kept hg9.out (fun b hb hA => ?_)).mono (fun b hA => ?_)
            · have := hob b hb; omega
            · exact ⟨by omega, by omega, hnx b hA.2 (fun hq => by have := hob b hq; omega)⟩
        clear d0 d1 d2 d3 hat9
        go_wp2_with fail
        refine ⟨?_, by simp [intOf]; omega⟩
        first
          | exact ⟨i + 1, at3, _, by omega, rfl, hta.1, hta.2, HAS.out, HRP9.out, HGN9.out, hown9.out, HE9.out⟩
          | (repeat apply Exists.intro
             refine ⟨?_, rfl⟩
             exact ⟨i + 1, at3, _, by omega, rfl, hta.1, hta.2, HAS.out, HRP9.out, HGN9.out, hown9.out, HE9.out⟩)
      · have hk0 : (0 : Int) ≤ sk := by omega
        have HA2 : Hid (A1 = if sk < 0 ∨ 1125899906842624 < sk then at_ else sk) := by
          unfold Hid
          rw [← HA1.out]
          unfold seekA
          simp only
          rw [if_neg hk]
          by_cases hb : 1125899906842624 < sk
          · rw [if_pos hb, if_pos (.inr hb)]
          · rw [if_neg hb, if_neg (by omega)]
        have HE2 : Hid (sE = if sk < 0 ∨ 1125899906842624 < sk then 3 else 0) := by
          unfold Hid
          rw [← HsE.out]
          unfold seekE
          simp only
          rw [if_neg hk]
          by_cases hb : 1125899906842624 < sk
          · rw [if_pos hb, if_pos (.inr hb)]
          · rw [if_neg hb, if_neg (by omega)]
        have KC := Lib.hid (Seek_calls pb (.slice ax fl cx) DF at_ sk wA HRPA.out)
        rw [← HA2.out, ← HE2.out] at KC
        clear hk
        go_upto_region 11 with (go_at_call 16; refine (KC.out).mono ?_; rintro e2 w2 ⟨rfl, hg2, hr2⟩; have HRD2 : Hid (w2.heap[sb]? = some (.cells #[.int .i64 0, .int .i64 0, .slice none 0 0, .int .i64 0] 36 (0, 0))) := row_kept hg2.out HRDA.out (by simp; omega); have d0 := cell_of HRD2.out 0; have f0 := free_of HRD2.out 0)
        obtain ⟨wS, hwS⟩ : ∃ wS, w2.setCell ⟨sb, 0, none⟩ (.int .i64 sE) = wS := ⟨_, rfl⟩
        have HGS2 : Hid (w2.grownBy wS (some sb)) := by unfold Hid; rw [← hwS]; exact grown_set (p := ⟨sb, 0, none⟩) (grown_refl _ _) (.inl rfl) _
        have HRDS : Hid (wS.heap[sb]? = some (.cells #[.int .i64 sE, .int .i64 0, .slice none 0 0, .int .i64 0] 36 (0, 0))) := by
          unfold Hid
          rw [← hwS, set_self HRD2.out]
          simp
        simp only [hwS]
        clear hwS d0 f0
        have HRTS : Hid (wS.heap[sa]? = some (.cells #[.int .i64 sk, .int .i64 tk] 31 (0, 0))) := row_kept HGS2.out (row_kept hg2.out HRTA.out (by simp; omega)) (by simp; omega)
        have HRPS : Hid (wS.heap[pb]? = some (.cells #[.slice ax f.len cx, .int .i64 DF, .int .i64 A1] 64 (0, 0))) := by
          unfold Hid
          rw [hfl]
          exact row_kept HGS2.out hr2.out (by simp; omega)
        have HGS : Hid (wr.grownBy wS (some pb)) := grown_from (grown_trans (grown_none HGA.out _) hg2.out) HGS2.out (.inl hsbw)
        clear HRTA HRDA HRPA HGA
        -- behind Seek
        clear p0 p1
        have t1 := cell_of HRTS.out 1
        have hszs : SzV wS (fun b => b < B ∧ b ≠ pb) (.slice ax f.len cx) f := HSR.out.kept HGS.out (fun b hb hA => by injection hb with hb; omega)
        have XC := Lib.hid (Next_calls pb ax cx f DF A1 tk (fun b => b < B ∧ b ≠ pb) wS HRPS.out hszs HFINE.out HD1.out HSZ.out hsa.1 hsa.2)
        rw [hfl] at XC
        go_upto_region 12 with (go_at_call 17; refine (XC.out).mono ?_; rintro e3 w3 hn3; have hq3 : Hid (NextR pb (.slice ax fl cx) f DF A1 tk wS e3 w3) := hn3; obtain ⟨v3, rfl, hev3, hg3, hr3⟩ := hq3.out; rw [hnE] at hev3 hr3 ⊢; have he3 : Evs w3 v3 nE.1 := EvsA.evs hev3; obtain ⟨a3, c3, rfl⟩ := evs_len he3; have HEV3 := Lib.hid hev3; have HG3 := Lib.hid hg3; have HR3 := Lib.hid hr3; clear hn3 hq3 he3 hev3 hg3 hr3; have HRD3 : Hid (w3.heap[sb]? = some (.cells #[.int .i64 sE, .int .i64 0, .slice none 0 0, .int .i64 0] 36 (0, 0))) := row_kept HG3.out HRDS.out (by simp; omega); have d2 := cell_of HRD3.out 2; have f2 := free_of HRD3.out 2; have d1 := cell_of HRD3.out 1; have f1 := free_of HRD3.out 1)
        obtain ⟨wy, rfl⟩ : ∃ wy : World, wy = w3 := ⟨_, rfl⟩
        obtain ⟨xs3, at3, er3⟩ := nE
        simp only at HEV3 HR3 HPS HAS hta d1 d2 ⊢
        obtain ⟨ln3, hln3⟩ : ∃ ln3, xs3.length = ln3 := ⟨_, rfl⟩
        have HLN := Lib.hid hln3
        rw [hln3] at HEV3 ⊢
        clear hln3
        obtain ⟨wU, hwU⟩ : ∃ wU, (wy.setCell ⟨sb, 2, none⟩ (.slice a3 ln3 c3)).setCell ⟨sb, 1, none⟩ (.int .i64 er3) = wU := ⟨_, rfl⟩
        have HRDU : Hid (wU.heap[sb]? = some (.cells #[.int .i64 sE, .int .i64 er3, .slice a3 ln3 c3, .int .i64 0] 36 (0, 0))) := by
          unfold Hid
          rw [← hwU, set_self (set_self HRD3.out _)]
          simp
        have HGU : Hid (wy.grownBy wU (some sb)) := by
          unfold Hid
          rw [← hwU]
          exact grown_set (p := ⟨sb, 1, none⟩) (grown_set (p := ⟨sb, 2, none⟩) (grown_refl _ _) (.inl rfl) _) (.inl rfl) _
        simp only [hwU]
        clear hwU d1 d2 f1 f2
        have HRPU : Hid (wU.heap[pb]? = some (.cells #[.slice ax fl cx, .int .i64 DF, .int .i64 at3] 64 (0, 0))) := row_kept HGU.out HR3.out (by simp; omega)
        have HEVU : Hid (EvsA wU (fun q => wS.heap.size ≤ q ∧ q < wU.heap.size) (.slice a3 ln3 c3) xs3) := by
          have hs := HGU.out.size
          refine (HEV3.out.kept HGU.out (fun b hb hA => ?_)).mono (fun b hA => ⟨hA.1, by omega⟩)
          injection hb with hb
          have := lt_of HRDS.out
          omega
        have HGRU : Hid (wr.grownBy wU (some pb)) := by
          unfold Hid
          exact grown_from (grown_trans HGS.out HG3.out) HGU.out (.inl hsbw)
        have AC := Lib.hid (At_calls pb (.slice ax fl cx) DF at3 wU HRPU.out)
        have d3 := cell_of HRDU.out 3
        have f3 := free_of HRDU.out 3
        go_upto_region 13 with (go_at_call 18; refine (AC.out).mono ?_; rintro e4 w4 ⟨rfl, rfl⟩)
        obtain ⟨wV, hwV⟩ : ∃ wV, wU.setCell ⟨sb, 3, none⟩ (.int .i64 at3) = wV := ⟨_, rfl⟩
        have HRDV : Hid (wV.heap[sb]? = some (.cells #[.int .i64 sE, .int .i64 er3, .slice a3 ln3 c3, .int .i64 at3] 36 (0, 0))) := by
          unfold Hid
          rw [← hwV, set_self HRDU.out]
          simp
        have HGV : Hid (wU.grownBy wV (some sb)) := by
          unfold Hid
          rw [← hwV]
          exact grown_set (p := ⟨sb, 3, none⟩) (grown_refl _ _) (.inl rfl) _
        simp only [hwV]
        clear hwV d3 f3 t1
        have HRPV : Hid (wV.heap[pb]? = some (.cells #[.slice ax f.len cx, .int .i64 DF, .int .i64 at3] 64 (0, 0))) := by
          unfold Hid
          rw [hfl]
          exact row_kept HGV.out HRPU.out (by simp; omega)
        have HEVV : Hid (EvsA wV (fun q => wS.heap.size ≤ q ∧ q < wV.heap.size) (.slice a3 ln3 c3) xs3) := by
          have hs := HGV.out.size
          refine (HEVU.out.kept HGV.out (fun b hb hA => ?_)).mono (fun b hA => ⟨hA.1, by omega⟩)
          injection hb with hb
          have := lt_of HRDS.out
          omega
        have HGRV : Hid (wr.grownBy wV (some pb)) := by
          unfold Hid
          exact grown_from HGRU.out HGV.out (.inl hsbw)
        have HOV : Hid (wV.ownsRow B 36 4 u8 i cs) := HO.out.kept HGRV.out (.inr (fun h => by have := own_base HO.out h; omega))
        have d0 := cell_of HRDV.out 0
        have d1 := cell_of HRDV.out 1
        have d2 := cell_of HRDV.out 2
        have d3 := cell_of HRDV.out 3
        have HBW : Hid (B ≤ wr.heap.size) := by unfold Hid; rw [← HB.out]; exact HGN.out.size
        go_upto_region 14 with (at_builtin; refine append_one rfl _ _ 27 rfl B 36 i0 _ 4 48 Try.underlying27 hi hz0 hz1 hz2 rfl (by decide) u8 i cs rfl wV _ _ HOV.out rfl rfl (by simp [Value.oneCell']) (by unfold maxLen; omega) (by omega) (by have h1 := HBW.out; have h2 := HGRV.out.size; unfold Hid at h1; omega) ?_; intro v9 w9 hown9 hg9 hat9)
        have HGN9 : Hid (wN.grownBy w9 (some pb)) := grown_own (grown_trans HGN.out HGRV.out) HOV.out (by rw [HB.out]; exact Nat.le_refl _) hg9.out
        have HRP9 : Hid (w9.heap[pb]? = some (.cells #[.slice ax f.len cx, .int .i64 DF, .int .i64 at3] 64 (0, 0))) := row_kept hg9.out HRPV.out (fun h => by have := own_base HO.out h.symm; omega)
        have HE9 : Hid (PlE w9 (fun b => B ≤ b ∧ b < w9.heap.size ∧ v9.ownBlock ≠ some b) (playR f 0 (ts.take (i + 1))) (cs ++ [.int .i64 sE, .int .i64 er3, .slice a3 ln3 c3, .int .i64 at3])) := by
          unfold Hid
          have s1 := HBW.out
          have s2 := HGRV.out.size
          have s3 := hg9.out.size
          have s4 := HGS.out.size
          unfold Hid at s1
          have hob : ∀ q, u8.ownBlock = some q → B ≤ q ∧ q < wr.heap.size := fun q hq => own_base HO.out hq
          have hnx : ∀ q, q < wV.heap.size → u8.ownBlock ≠ some q → v9.ownBlock ≠ some q := fun q hq hu hv => by
            rcases hat9.out with h | ⟨q2, h, h2⟩
            · exact hu (by rw [← h]; exact hv)
            · rw [h] at hv; injection hv with hv; omega
          rw [HPS.out]
          refine PlE.snoc (p := ⟨sE, er3, xs3, at3⟩) ?_ ?_
          · refine ((HE.out.kept HGRV.out (fun b hb hA => by injection hb with hb; omega)).kept hg9.out (fun b hb hA => hA.2.2 hb)).mono (fun b hA => ?_)
            exact ⟨hA.1, by have := hA.2.1; omega, hnx b (by have := hA.2.1; omega) hA.2.2⟩
          · refine (HEVV.out.kept hg9.out (fun b hb hA => ?_)).mono (fun b hA => ?_)
            · have := hob b hb; omega
            · exact ⟨by omega, by omega, hnx b hA.2 (fun hq => by have := hob b hq; omega)⟩
        clear d0 d1 d2 d3 hat9
        go_wp2_with fail
        refine ⟨?_, by simp [intOf]; omega⟩
        first
          | exact ⟨i + 1, at3, _, by omega, rfl, hta.1, hta.2, HAS.out, HRP9.out, HGN9.out, hown9.out, HE9.out⟩
          | (repeat apply Exists.intro
             refine ⟨?_, rfl⟩
             exact ⟨i + 1, at3, _, by omega, rfl, hta.1, hta.2, HAS.out, HRP9.out, HGN9.out, hown9.out, HE9.out⟩)
  · have H0 := Lib.hid h0
    obtain ⟨LE, hLE⟩ : ∃ LE, longE f = LE := ⟨_, rfl⟩
    have hz : (LE != 0) = true := by rw [← hLE]; simpa using h0
    have HLE := Lib.hid hLE
    clear h0 hLE
    go_enter Try.func9, Try.ntmps9
    go_upto_region 2 with (go_at_call 15; refine (NC.out).mono ?_; rintro e1 w1 ⟨hnew, hg1⟩; rcases hnew.out with ⟨_, rfl⟩ | ⟨hx, _⟩; rotate_left; · exact absurd hx H0.out)
    rw [HLE.out]
    go_wp2_with fail
    go_ret2
    exact ⟨.inl ⟨H0.out, by rw [HLE.out]; rfl⟩, hg1.out⟩

end Go.Proofs.Ythmcicmebaibgaa.TPly
