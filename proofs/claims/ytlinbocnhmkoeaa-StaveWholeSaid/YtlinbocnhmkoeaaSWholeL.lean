/- StaveWhole: it returns true. -/
import Derived.Test.YtlinbocnhmkoeaaSBestL
namespace Go.Proofs.Ytlinbocnhmkoeaa.SWholeL
open Go Go.RowKit Go.Proofs.Ytlinbocnhmkoeaa.SMod Go.Proofs.Ytlinbocnhmkoeaa.SBest Go.Proofs.Ytlinbocnhmkoeaa.SCost Go.Proofs.Ytlinbocnhmkoeaa.SWrong Go.Proofs.Ytlinbocnhmkoeaa.SSum Go.Proofs.Ytlinbocnhmkoeaa.SLaw Go.Proofs.Ytlinbocnhmkoeaa.SBetter Go.Proofs.Ytlinbocnhmkoeaa.SBreak Go.Proofs.Ytlinbocnhmkoeaa.SBestL Go.Proofs.Ytlinbocnhmkoeaa.Opn Go.Proofs.Ytlinbocnhmkoeaa.Hp Go.Proofs.Ytlinbocnhmkoeaa.Rd
set_option linter.unusedVariables false

def fitB (l : List Bx) (W : Int) : Bool := l.all fun b => decide (b.wide - b.give ≤ W)

theorem fitB_step {l : List Bx} {W : Int} {k : Nat} {b : Bx} (hk : l[k]? = some b) : fitB (l.take (k + 1)) W = (fitB (l.take k) W && decide (b.wide - b.give ≤ W)) := by
  obtain ⟨h1, h2⟩ := List.getElem?_eq_some_iff.1 hk
  unfold fitB
  rw [List.take_succ_eq_append_getElem h1, List.all_append, h2]
  simp

theorem fitB_iff {l : List Bx} {W : Int} : fitB l W = true ↔ fitsB l W := by
  unfold fitB fitsB
  simp

theorem drop_bxs {w : World} {ao : Option Addr} {cap e : Nat} {l : List Bx} (h : Bxs w (.slice ao l.length cap) l) (he : e ≤ l.length) {bk off : Nat} (ha : ao = some ⟨bk, off, none⟩) (c : Nat) :
    Bxs w (.slice (some ⟨bk, off + e * 2, none⟩) (l.drop e).length c) (l.drop e) := by
  rcases h with ⟨bk', off', cap', hh, hel⟩ | ⟨ao', cap', hh, rfl⟩
  · simp only [Value.slice.injEq] at hh
    obtain ⟨rfl, _, _⟩ := hh
    injection ha with ha
    injection ha with h1 h2
    subst h1 h2
    refine .inl ⟨bk', off' + e * 2, c, rfl, fun i x hx => ?_⟩
    rw [List.getElem?_drop] at hx
    obtain ⟨cs, g1, g2, g3⟩ := hel (e + i) x hx
    refine ⟨cs, g1, fun j u hu => ?_, g3⟩
    rw [← g2 j u hu]
    congr 2
    rw [Nat.add_mul]
    omega
  · exact .inr ⟨some ⟨bk, off + e * 2, none⟩, c, by simp, by simp⟩

theorem path_below {l : List Bx} {W : Int} {i t : Nat} {r : List Nat} {c : Int} (h : pathC l W i t r = some c) : ∀ x ∈ r, x ≤ t := by
  induction r generalizing i c with
  | nil => simp
  | cons e r ih =>
    obtain ⟨h1, h2, x, y, h3, h4, rfl⟩ := pathC_cons h
    intro z hz
    rcases List.mem_cons.1 hz with rfl | hz
    · exact h2
    · exact ih h4 z hz

theorem bxs_addr {w : World} {ao : Option Addr} {n cap : Nat} {l : List Bx} (h : Bxs w (.slice ao n cap) l) (hn : l.length = n) (hpos : 0 < n) : ∃ bk off, ao = some ⟨bk, off, none⟩ := by
  rcases h with ⟨bk, off, cap', hh, hel⟩ | ⟨ao', cap', hh, rfl⟩
  · simp only [Value.slice.injEq] at hh
    exact ⟨bk, off, hh.1⟩
  · simp at hn; omega

set_option maxHeartbeats 2000000 in
set_option maxRecDepth 100000 in
theorem law (ao : Option Addr) (cap : Nat) (l : List Bx) (W : Int) (w : World) (hv : Bxs w (.slice ao l.length cap) l) (hcap : l.length ≤ cap) :
    Calls Try.prog 5 #[.slice ao l.length cap, .int .i64 W] w fun e w' => e = .returned (.bool true) ∧ Hid (w.grownBy w' none) := by
  have B1 := Lib.hid (fun w1 (hg : w.grownBy w1 none) => break_calls ao cap l W w1 (Slc.grown hv hg fun _ _ h => h))
  have W1 := Lib.hid (fun w1 (hg : w.grownBy w1 none) => wrong_calls ao cap l W w1 (Slc.grown hv hg fun _ _ h => h))
  have C1 := Lib.hid (fun w1 v1 ends1 (hg : w.grownBy w1 none) (h1 : Ils w1 v1 ends1) (hm1 : ends1.length < 9223372036854775807) => cost_calls2 ao cap l W v1 ends1 w1 (Slc.grown hv hg fun _ _ h => h) h1 hm1)
  have HV0 := Lib.hid hv
  obtain ⟨n, hn⟩ : ∃ n, l.length = n := ⟨_, rfl⟩
  have HN := Lib.hid hn
  simp only [hn] at B1 C1 W1
  rw [hn] at hcap hv ⊢
  have HV := Lib.hid hv
  clear hv hn
  go_enter Try.func5, Try.ntmps5
  go_wp2_with (go_at_call 13; refine (alive_calls _).mono ?_; rintro e w1 ⟨rfl, hg1⟩; have HG1 := Lib.hid hg1.out; clear hg1)
  refine (B1.out _ HG1.out).mono ?_
  rintro e w2 ⟨hg2, ⟨hbad, rfl⟩ | ⟨hok, hno, rfl⟩ | ⟨hok, va, c, R, hbest, hia, rfl⟩⟩
  · have HG2 := Lib.hid (grown_trans HG1.out hg2.out)
    have hw := W1.out w2 HG2.out
    obtain ⟨r, hr⟩ : ∃ r, wrongS l W = r := ⟨_, rfl⟩
    rw [hr] at hbad hw ⊢
    have HW := Lib.hid hw
    have hr1 : (r != 0) = true := by simpa using hbad
    clear hr hg2 hbad hw B1 C1 W1
    go_wp2_with (go_at_call 6; refine (HW.out).mono ?_; rintro e w3 ⟨rfl, hg3⟩; have HG3 := Lib.hid (grown_trans HG2.out hg3.out); clear hg3)
    go_ret
    exact ⟨rfl, HG3.out⟩
  · have HG2 := Lib.hid (grown_trans HG1.out hg2.out)
    have hw := W1.out w2 HG2.out
    obtain ⟨o1, o2, o3, o4⟩ := wrongS_ok hok
    rw [hok] at hw
    have HW := Lib.hid hw
    have HO := Lib.hid o4
    have hnf : fitB l W = false := by
      cases h : fitB l W with
      | false => rfl
      | true =>
        obtain ⟨R, c, hp⟩ := path_of_fits (fitB_iff.1 h) l.length 0 (by omega)
        rw [hno] at hp; cases hp
    have HNF := Lib.hid hnf
    rw [HN.out] at o1
    clear hg2 hok hno hw B1 C1 W1 hnf o4
    go_upto_region 7 with (go_at_call 6; refine (HW.out).mono ?_; rintro e w3 ⟨rfl, hg3⟩; have HG3 := Lib.hid (grown_trans HG2.out hg3.out); clear hg3)
    go_wp2_with fail
    go_loopw [8, 33] (fun f i wr => ∃ (k : Nat) (fb : Bool), k ≤ n ∧ i = .int .i64 k ∧ f = .bool fb ∧ Hid (fb = fitB (l.take k) W) ∧ Hid (w.grownBy wr none)) (fun _ i _ => n - (intOf i).toNat)
    case atStart => exact ⟨0, true, Nat.zero_le _, rfl, rfl, by rw [List.take_zero]; rfl, HG3⟩
    case round =>
      obtain ⟨k, fb, hk, rfl, rfl, HF, HG⟩ := hrel
      by_cases hlt : k < n
      · obtain ⟨b, hbk⟩ : ∃ b, l[k]? = some b := ⟨l[k]'(by rw [HN.out]; exact hlt), List.getElem?_eq_getElem _⟩
        have hs := fitB_step (W := W) hbk
        have hbb := HO.out b (List.mem_of_getElem? hbk)
        obtain ⟨bk, off, rfl, hc⟩ := bx_at HN.out HV.out HG.out hbk
        obtain ⟨wd, gv⟩ := b
        unfold okB at hbb
        simp only at hbb hs
        obtain ⟨y1, y2, y3, y4⟩ := hbb
        have c0 : wr.cell? ⟨bk, off + k * 2, none⟩ = some (.int .i64 wd) := hc 0 _ rfl
        have c1 : wr.cell? ⟨bk, off + k * 2 + 1, none⟩ = some (.int .i64 gv) := hc 1 _ rfl
        have HGA : Hid (w.grownBy (wr.alloc (.cells #[.int .i64 wd, .int .i64 gv] 35)) none) := grown_alloc HG.out _
        obtain ⟨fb2, hfb2⟩ : ∃ f, fitB (l.take (k + 1)) W = f := ⟨_, rfl⟩
        have HF2 : Hid (fb2 = fitB (l.take (k + 1)) W) := hfb2.symm
        rw [hfb2, ← HF.out] at hs
        clear hc hbk hfb2 HF
        cases fb with
        | false =>
          obtain rfl : fb2 = false := by simpa using hs
          clear hs
          go_wp2_with fail
          go_roundw
          case rel => exact ⟨k + 1, false, by omega, by go_num, rfl, HF2, HGA⟩
          case measure => simp [intOf]; omega
        | true =>
          obtain rfl : fb2 = decide (wd - gv ≤ W) := by simpa using hs
          clear hs
          go_wp2_with fail
          go_roundw
          case rel => exact ⟨k + 1, decide (wd - gv ≤ W), by omega, by go_num, rfl, HF2, HGA⟩
          case measure => simp [intOf]; omega
      · obtain rfl : k = n := by omega
        have HFE : Hid (fb = fitB l W) := by
          have := HF.out
          rw [List.take_of_length_le (by rw [HN.out]; exact Nat.le_refl _)] at this
          exact this
        clear HF
        obtain rfl : fb = false := HFE.out.trans HNF.out
        go_wp2_with fail
        go_ret
        exact ⟨rfl, HG⟩
  · have HG2 := Lib.hid (grown_trans HG1.out hg2.out)
    have hw := W1.out w2 HG2.out
    obtain ⟨o1, o2, o3, o4⟩ := wrongS_ok hok
    rw [hok] at hw
    have HW := Lib.hid hw
    have HO := Lib.hid o4
    have hnf : fitB l W = true := fitB_iff.2 fun b hb => by
      obtain ⟨j, hj⟩ := List.getElem?_of_mem hb
      exact fits_of_path o4 hbest.1 j b (Nat.zero_le _) hj
    have HNF := Lib.hid hnf
    have HOK := Lib.hid hok
    have HBEST := Lib.hid hbest
    have hRl := (path_bound o4 o1 ⟨o2, o3⟩ (Nat.le_refl _) hbest.1).2.2
    rw [HN.out] at o1 hRl
    obtain ⟨av, cv, rfl, _⟩ := sl_open hia
    have hlen : (R.map fun n : Nat => (n : Int)).length = R.length := by simp
    rw [hlen] at hia ⊢
    have HIA := Lib.hid hia
    clear hg2 hok hw W1 hnf o4 hbest hia hlen
    go_upto_region 7 with (go_at_call 6; refine (HW.out).mono ?_; rintro e w3 ⟨rfl, hg3⟩; have HG3 := Lib.hid (grown_trans HG2.out hg3.out); have HI3 := Lib.hid (HIA.out.grown hg3.out); clear hg3)
    go_wp2_with fail
    go_loopw [8, 33] (fun f i wr => ∃ (k : Nat) (fb : Bool), k ≤ n ∧ i = .int .i64 k ∧ f = .bool fb ∧ Hid (fb = fitB (l.take k) W) ∧ Hid (w.grownBy wr none) ∧ Hid (w3.grownBy wr none)) (fun _ i _ => n - (intOf i).toNat)
    case atStart => exact ⟨0, true, Nat.zero_le _, rfl, rfl, by rw [List.take_zero]; rfl, HG3, grown_refl _ _⟩
    case round =>
      obtain ⟨k, fb, hk, rfl, rfl, HF, HG, HG3'⟩ := hrel
      by_cases hlt : k < n
      · obtain ⟨b, hbk⟩ : ∃ b, l[k]? = some b := ⟨l[k]'(by rw [HN.out]; exact hlt), List.getElem?_eq_getElem _⟩
        have hs := fitB_step (W := W) hbk
        have hbb := HO.out b (List.mem_of_getElem? hbk)
        obtain ⟨bk, off, rfl, hc⟩ := bx_at HN.out HV.out HG.out hbk
        obtain ⟨wd, gv⟩ := b
        unfold okB at hbb
        simp only at hbb hs
        obtain ⟨y1, y2, y3, y4⟩ := hbb
        have c0 : wr.cell? ⟨bk, off + k * 2, none⟩ = some (.int .i64 wd) := hc 0 _ rfl
        have c1 : wr.cell? ⟨bk, off + k * 2 + 1, none⟩ = some (.int .i64 gv) := hc 1 _ rfl
        have HGA3 : Hid (w3.grownBy (wr.alloc (.cells #[.int .i64 wd, .int .i64 gv] 35)) none) := grown_alloc HG3'.out _
        have HGA : Hid (w.grownBy (wr.alloc (.cells #[.int .i64 wd, .int .i64 gv] 35)) none) := grown_alloc HG.out _
        obtain ⟨fb2, hfb2⟩ : ∃ f, fitB (l.take (k + 1)) W = f := ⟨_, rfl⟩
        have HF2 : Hid (fb2 = fitB (l.take (k + 1)) W) := hfb2.symm
        rw [hfb2, ← HF.out] at hs
        clear hc hbk hfb2 HF
        cases fb with
        | false =>
          obtain rfl : fb2 = false := by simpa using hs
          clear hs
          go_wp2_with fail
          go_roundw
          case rel => exact ⟨k + 1, false, by omega, by go_num, rfl, HF2, HGA, HGA3⟩
          case measure => simp [intOf]; omega
        | true =>
          obtain rfl : fb2 = decide (wd - gv ≤ W) := by simpa using hs
          clear hs
          go_wp2_with fail
          go_roundw
          case rel => exact ⟨k + 1, decide (wd - gv ≤ W), by omega, by go_num, rfl, HF2, HGA, HGA3⟩
          case measure => simp [intOf]; omega
      · obtain rfl : k = n := by omega
        have HFE : Hid (fb = fitB l W) := by
          have := HF.out
          rw [List.take_of_length_le (by rw [HN.out]; exact Nat.le_refl _)] at this
          exact this
        clear HF
        obtain rfl : fb = true := HFE.out.trans HNF.out
        clear HFE HNF
        have HIE := Lib.hid (HI3.out.grown HG3'.out)
        clear HI3 HG3'
        by_cases hn0 : k = 0
        · subst hn0
          obtain rfl : R = [] := List.eq_nil_of_length_eq_zero (by omega)
          obtain ⟨_, rfl⟩ := path_nil HBEST.out.1
          clear HBEST HIE
          go_wp2_with fail
          go_ret
          exact ⟨rfl, HG⟩
        · have hk0 : 0 < k := by omega
          have hk0' : ((k : Int) == 0) = false := by simp; omega
          obtain ⟨e, s, rfl⟩ : ∃ e s, R = e :: s := by
            cases R with
            | nil =>
              have := (path_nil HBEST.out.1).1
              rw [HN.out] at this; omega
            | cons e s => exact ⟨e, s, rfl⟩
          obtain ⟨he1, he2, c0, d, hl0, hcd, hbt⟩ := best_tail HBEST.out
          rw [HN.out] at he2
          obtain ⟨lr, hlr⟩ : ∃ lr, (e :: s).length = lr := ⟨_, rfl⟩
          have hlr1 : lr = s.length + 1 := by rw [← hlr]; rfl
          obtain ⟨ba, oa, rfl, hea⟩ := at_list (k := 0) (x := e) HIE.out (grown_refl _ _) rfl
          rw [Nat.add_zero] at hea
          obtain ⟨bk, off, rfl⟩ := bxs_addr HV.out HN.out hk0
          have HDX := Lib.hid (fun w1 (hg : w.grownBy w1 none) c => drop_bxs (e := e) (Slc.grown HV0.out hg fun _ _ h => h) (by rw [HN.out]; exact he2) rfl c)
          have hbd := best_drop (by rw [HN.out]; exact he2) hbt
          have HWD := Lib.hid (wrong_drop (e := e) HOK.out)
          have HBD := Lib.hid hbd
          have HBT := Lib.hid hbt
          have HCD := Lib.hid hcd
          have HL0 := Lib.hid hl0
          have hdl : (l.drop e).length = k - e := by rw [List.length_drop, HN.out]
          have HDL := Lib.hid hdl
          have e1 : ¬ (e : Int) < 1 := by omega
          have e2 : ¬ (k : Int) < e := by omega
          have e3 : ((lr : Int) == 0) = false := by simp; omega
          rw [hlr]
          clear hlr hbt hbd hdl hcd hl0
          have B2 := Lib.hid (fun w1 (hg : w.grownBy w1 none) c => by
            have := break_calls (some ⟨bk, off + e * 2, none⟩) c (l.drop e) W w1 (HDX.out w1 hg c)
            rw [HDL.out] at this
            exact this)
          clear HDX
          have hc0 := (line_bound HO.out (by rw [HN.out]; exact o1) ⟨o2, o3⟩ (Nat.le_of_lt he1) (by rw [HN.out]; exact he2) HL0.out).1
          have hmc : ¬ c < d := by rw [HCD.out]; omega
          have HSL := Lib.hid (show s.length ≤ 1024 by have := hRl; simp only [List.length_cons] at this; omega)
          have HSB := Lib.hid (fun (i x : Nat) (hx : s[i]? = some x) => (⟨path_above HBT.out.1 x (List.mem_of_getElem? hx), path_below HBT.out.1 x (List.mem_of_getElem? hx)⟩ : e < x ∧ x ≤ l.length))
          clear HO HL0 HCD
          go_wp2_with fail
          case inl =>
            obtain rfl : e = cap := by omega
            have hke : l.drop e = [] := List.eq_nil_of_length_eq_zero (by rw [HDL.out]; omega)
            have B3 := break_calls (some ⟨bk, off, none⟩) 0 (l.drop e) W wr (by rw [hke]; exact .inr ⟨_, _, rfl, rfl⟩)
            rw [HDL.out] at B3
            refine B3.mono ?_
            clear B3 hke
            rintro e' w5 ⟨hg5, ⟨hbad, _⟩ | ⟨_, hno, _⟩ | ⟨_, vb, d', R', hb', hib, rfl⟩⟩
            · exact absurd HWD.out hbad
            · have := HBD.out.1; rw [hno] at this; cases this
            · obtain ⟨rfl, rfl⟩ := hb'.unique HBD.out
              have HG5 := Lib.hid (grown_trans HG.out hg5.out)
              have HI5 := Lib.hid (HIE.out.grown hg5.out)
              obtain ⟨av2, cv2, rfl, _⟩ := sl_open hib
              rw [show ((s.map (· - e)).map fun n : Nat => (n : Int)).length = s.length from by simp] at hib ⊢
              have HIB := Lib.hid hib
              have hca := C1.out w5 _ (toI (e :: s)) HG5.out HI5.out (by rw [toI_len]; have := HSL.out; simp only [List.length_cons]; omega)
              rw [costS_path HOK.out HBEST.out.1, show pairV (c, 0) = .tuple #[.int .i64 c, .int .i64 0] from rfl] at hca
              simp only [List.length_cons] at hca
              have HCA := Lib.hid hca
              have hsl := HSL.out
              clear hca hib hb' hg5 B1 B2 C1 HBD HBT hea HIE HG HBEST
              go_wp2_with (go_at_call 11; refine (HCA.out).mono ?_; rintro e w6 ⟨rfl, hg6⟩; have HG6 := Lib.hid (grown_trans HG5.out hg6.out); have HI6 := Lib.hid (HI5.out.grown hg6.out); have HB6 := Lib.hid (HIB.out.grown hg6.out); clear hg6)
              go_loopw [126] (fun i wr => ∃ j : Nat, j ≤ s.length ∧ i = .int .i64 j ∧ Hid (w6.grownBy wr none)) (fun i _ => s.length - (intOf i).toNat)
              case atStart => exact ⟨0, Nat.zero_le _, rfl, grown_refl _ _⟩
              case round =>
                obtain ⟨j, hj, rfl, HGR⟩ := hrel
                have HGW : Hid (w.grownBy wr none) := grown_trans HG6.out HGR.out
                by_cases hjl : j < s.length
                · obtain ⟨x, hx⟩ : ∃ x, s[j]? = some x := ⟨s[j], List.getElem?_eq_getElem _⟩
                  obtain ⟨x1, x2⟩ := HSB.out j x hx
                  rw [HN.out] at x2
                  obtain ⟨b1, q1, rfl, g1⟩ := at_list (k := j) (x := x - e) HB6.out HGR.out (by rw [List.getElem?_map, hx]; rfl)
                  obtain ⟨b2, q2, hq2, g2⟩ := at_list (k := 0) (x := e) HI6.out HGR.out rfl
                  obtain ⟨b3, q3, hq3, g3⟩ := at_list (k := j + 1) (x := x) HI6.out HGR.out (by simpa using hx)
                  injection hq2 with hq2; injection hq2 with u1 u2; subst u1 u2
                  injection hq3 with hq3; injection hq3 with u1 u2; subst u1 u2
                  rw [Nat.add_zero] at g2
                  obtain ⟨y, hy⟩ : ∃ y, x - e = y := ⟨_, rfl⟩
                  rw [hy] at g1
                  have hy2 : (y : Int) + (e : Int) = (x : Int) := by omega
                  obtain ⟨j1, hj1⟩ : ∃ j1, j + 1 = j1 := ⟨_, rfl⟩
                  rw [hj1] at g3
                  have hj2 : (j : Int) + 1 = (j1 : Int) := by omega
                  have hj3 : j1 < s.length + 1 := by omega
                  have hne : ((x : Int) != x) = false := by simp
                  have HJ := Lib.hid hj1
                  clear hx hy hj1
                  go_upto_region 25 with fail
                  go_region
                  have HGD := Lib.hid (grown_drew HGR.out)
                  go_wp2_with fail
                  go_roundw
                  case rel => exact ⟨j1, by omega, by go_num, HGD⟩
                  case measure => have := HJ.out; simp [intOf]; omega
                · obtain rfl : j = s.length := by omega
                  go_wp2_with fail
                  go_ret
                  exact ⟨rfl, HGW⟩
          case inr =>
            refine (B2.out _ HG.out _).mono ?_
            rintro e' w5 ⟨hg5, ⟨hbad, _⟩ | ⟨_, hno, _⟩ | ⟨_, vb, d', R', hb', hib, rfl⟩⟩
            · exact absurd HWD.out hbad
            · have := HBD.out.1; rw [hno] at this; cases this
            · obtain ⟨rfl, rfl⟩ := hb'.unique HBD.out
              have HG5 := Lib.hid (grown_trans HG.out hg5.out)
              have HI5 := Lib.hid (HIE.out.grown hg5.out)
              obtain ⟨av2, cv2, rfl, _⟩ := sl_open hib
              rw [show ((s.map (· - e)).map fun n : Nat => (n : Int)).length = s.length from by simp] at hib ⊢
              have HIB := Lib.hid hib
              have hca := C1.out w5 _ (toI (e :: s)) HG5.out HI5.out (by rw [toI_len]; have := HSL.out; simp only [List.length_cons]; omega)
              rw [costS_path HOK.out HBEST.out.1, show pairV (c, 0) = .tuple #[.int .i64 c, .int .i64 0] from rfl] at hca
              simp only [List.length_cons] at hca
              have HCA := Lib.hid hca
              have hsl := HSL.out
              clear hca hib hb' hg5 B1 B2 C1 HBD HBT hea HIE HG HBEST
              go_wp2_with (go_at_call 11; refine (HCA.out).mono ?_; rintro e w6 ⟨rfl, hg6⟩; have HG6 := Lib.hid (grown_trans HG5.out hg6.out); have HI6 := Lib.hid (HI5.out.grown hg6.out); have HB6 := Lib.hid (HIB.out.grown hg6.out); clear hg6)
              go_loopw [126] (fun i wr => ∃ j : Nat, j ≤ s.length ∧ i = .int .i64 j ∧ Hid (w6.grownBy wr none)) (fun i _ => s.length - (intOf i).toNat)
              case atStart => exact ⟨0, Nat.zero_le _, rfl, grown_refl _ _⟩
              case round =>
                obtain ⟨j, hj, rfl, HGR⟩ := hrel
                have HGW : Hid (w.grownBy wr none) := grown_trans HG6.out HGR.out
                by_cases hjl : j < s.length
                · obtain ⟨x, hx⟩ : ∃ x, s[j]? = some x := ⟨s[j], List.getElem?_eq_getElem _⟩
                  obtain ⟨x1, x2⟩ := HSB.out j x hx
                  rw [HN.out] at x2
                  obtain ⟨b1, q1, rfl, g1⟩ := at_list (k := j) (x := x - e) HB6.out HGR.out (by rw [List.getElem?_map, hx]; rfl)
                  obtain ⟨b2, q2, hq2, g2⟩ := at_list (k := 0) (x := e) HI6.out HGR.out rfl
                  obtain ⟨b3, q3, hq3, g3⟩ := at_list (k := j + 1) (x := x) HI6.out HGR.out (by simpa using hx)
                  injection hq2 with hq2; injection hq2 with u1 u2; subst u1 u2
                  injection hq3 with hq3; injection hq3 with u1 u2; subst u1 u2
                  rw [Nat.add_zero] at g2
                  obtain ⟨y, hy⟩ : ∃ y, x - e = y := ⟨_, rfl⟩
                  rw [hy] at g1
                  have hy2 : (y : Int) + (e : Int) = (x : Int) := by omega
                  obtain ⟨j1, hj1⟩ : ∃ j1, j + 1 = j1 := ⟨_, rfl⟩
                  rw [hj1] at g3
                  have hj2 : (j : Int) + 1 = (j1 : Int) := by omega
                  have hj3 : j1 < s.length + 1 := by omega
                  have hne : ((x : Int) != x) = false := by simp
                  have HJ := Lib.hid hj1
                  clear hx hy hj1
                  go_upto_region 25 with fail
                  go_region
                  have HGD := Lib.hid (grown_drew HGR.out)
                  go_wp2_with fail
                  go_roundw
                  case rel => exact ⟨j1, by omega, by go_num, HGD⟩
                  case measure => have := HJ.out; simp [intOf]; omega
                · obtain rfl : j = s.length := by omega
                  go_wp2_with fail
                  go_ret
                  exact ⟨rfl, HGW⟩
end Go.Proofs.Ytlinbocnhmkoeaa.SWholeL
