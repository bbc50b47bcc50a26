/- The law StepsWindows: its walk. -/
import Derived.Test.YthmcicmebaibgaaTWnd
namespace Go.Proofs.Ythmcicmebaibgaa.TWndL
open Go Go.RowKit Go.Proofs.Ythmcicmebaibgaa.WMod Go.Proofs.Ythmcicmebaibgaa.TMod Go.Proofs.Ythmcicmebaibgaa.TRead Go.Proofs.Ythmcicmebaibgaa.TEv Go.Proofs.Ythmcicmebaibgaa.TApp Go.Proofs.Ythmcicmebaibgaa.TWin Go.Proofs.Ythmcicmebaibgaa.TNext Go.Proofs.Ythmcicmebaibgaa.TPlr Go.Proofs.Ythmcicmebaibgaa.TPm Go.Proofs.Ythmcicmebaibgaa.TPly Go.Proofs.Ythmcicmebaibgaa.TAlive Go.Proofs.Ythmcicmebaibgaa.TLit Go.Proofs.Ythmcicmebaibgaa.TWnd Go.Proofs.Ythmcicmebaibgaa.Opn Go.Proofs.Ythmcicmebaibgaa.Hp Go.Proofs.Ythmcicmebaibgaa.Rd Go.Proofs.Ythmcicmebaibgaa.TWWrong Go.Proofs.Ythmcicmebaibgaa.TSame Go.Proofs.Ythmcicmebaibgaa.TSameQ
set_option linter.unusedVariables false
set_option linter.unusedSimpArgs false

theorem info31 : (Try.prog.info? 31).map (fun i => (i.zero, i.size, i.bytes)) = some (some (.agg #[.int .i64 0, .int .i64 0]), 2, 16) := by kernel_rfl

theorem ils_at {w : World} {ao : Option Addr} {n cap : Nat} {xs : List Int} (h : Ils w (.slice ao n cap) xs) {k : Nat} {x : Int} (hk : xs[k]? = some x) : ∃ b off, ao = some ⟨b, off, none⟩ ∧ w.cell? ⟨b, off + k, none⟩ = some (.int .i64 x) := by
  obtain ⟨ao', cap', he, hh⟩ := sl_open h
  obtain ⟨b, off, u, h1, h2, h3⟩ := hh k x hk
  simp only [Value.slice.injEq] at he
  subst h3
  exact ⟨b, off, he.1.trans h1, h2⟩

theorem sum_take_le : ∀ (cs : List Int), (∀ c ∈ cs, 0 ≤ c ∧ c ≤ 1099511627776) → 0 ≤ cs.sum ∧ cs.sum ≤ (cs.length : Int) * 1099511627776
  | [], _ => by simp
  | c :: cs, h => by
    have h1 := h c (.head _)
    have h2 := sum_take_le cs (fun x hx => h x (.tail _ hx))
    simp only [List.sum_cons, List.length_cons]
    have : ((cs.length + 1 : Nat) : Int) * 1099511627776 = (cs.length : Int) * 1099511627776 + 1099511627776 := by omega
    omega

theorem flat_snoc (ps : List Pl) (j : Nat) (p : Pl) (h : ps[j]? = some p) : (ps.take (j + 1)).flatMap (·.evs) = (ps.take j).flatMap (·.evs) ++ p.evs := by
  rw [List.take_add_one, h]
  simp

theorem flat_take (ps : List Pl) (j : Nat) : ((ps.take j).flatMap (·.evs)).length ≤ (ps.flatMap (·.evs)).length := by
  conv => rhs; rw [← List.take_append_drop j ps, List.flatMap_append, List.length_append]
  omega

theorem flat_mem (ps : List Pl) (p : Pl) (h : p ∈ ps) : p.evs.length ≤ (ps.flatMap (·.evs)).length := by
  induction ps with
  | nil => cases h
  | cons q ps ih =>
    simp only [List.flatMap_cons, List.length_append]
    rcases List.mem_cons.1 h with rfl | h
    · omega
    · have := ih h; omega

set_option maxHeartbeats 8000000 in
set_option maxRecDepth 100000 in
theorem law (f : For) (v : Value) (cao : Option Addr) (cc : Nat) (cuts : List Int) (w : World) (hsec : Secs w v f) (hcut : Ils w (.slice cao cuts.length cc) cuts) (hbig : cuts.length < 9223372036854775807) :
    Calls Try.prog 4 #[v, .slice cao cuts.length cc] w fun e w' => e = .returned (.bool true) ∧ Hid (w.grownBy w' none) := by
  obtain ⟨i0, hi, hz0, hz1, hz2⟩ := info_parts info31
  have HSEC := Lib.hid hsec
  have HC := Lib.hid hcut
  have AL := Lib.hid (fun w' => alive_calls w')
  obtain ⟨n, hn⟩ : ∃ n, cuts.length = n := ⟨_, rfl⟩
  have HN := Lib.hid hn
  rw [hn] at hbig HC ⊢
  clear hsec hcut hn
  have hbig2 : (n : Int) < 9223372036854775807 := by omega
  go_enter Try.func4, Try.ntmps4
  go_upto_region 5 with (go_at_call 12; refine (AL.out _).mono ?_; rintro e1 w1 ⟨rfl, hg1⟩)
  obtain ⟨wa, rfl⟩ : ∃ wa : World, wa = w1 := ⟨_, rfl⟩
  obtain ⟨B, hB⟩ : ∃ B, wa.heap.size = B := ⟨_, rfl⟩
  have HB := Lib.hid hB
  clear hB
  go_wp2_with fail
  go_loopw [5, 6, 20] (fun v5 v6 v20 wr => ∃ (i : Nat) (s : Int), i ≤ n ∧ v20 = .int .i64 (i : Int) ∧ v5 = .int .i64 s ∧ 0 ≤ s ∧ s ≤ (i : Int) * 1099511627776 ∧ (0 < i → n ≤ 1000) ∧ Hid ((cuts.take i).sum = s) ∧ Hid (∀ c ∈ cuts.take i, 0 ≤ c ∧ c ≤ 1099511627776) ∧ Hid (wr.ownsRow B 31 2 v6 i (tnC ((cuts.take i).map tnOf))) ∧ Hid (wa.grownBy wr none)) (fun _ _ v20 _ => n - (intOf v20).toNat)
  case atStart => exact ⟨0, 0, Nat.zero_le _, rfl, rfl, by omega, by omega, fun h => absurd h (by omega), rfl, (fun c hc => by simp at hc), World.ownsRow_nil _ _ _ _, grown_refl _ _⟩
  case round =>
    obtain ⟨i, s, hi1, rfl, rfl, hs0, hs1, hn1, HS, HA, HO, HG⟩ := hrel
    by_cases hie : i = n
    · trace "exit"
      have hn2 : n ≤ 1000 := by
        by_cases h : 0 < i
        · exact hn1 h
        · omega
      have hs2 : s ≤ 1099511627776000 := by
        have : (i : Int) ≤ 1000 := by omega
        omega
      have hsb : s ≤ 1125899906842624 := by omega
      obtain ⟨ta, tc, rfl⟩ := own_slice HO.out
      have HTN : Hid (Tns wr (.slice ta n tc) (cuts.map tnOf)) := by
        have h := HO.out
        rw [hie, ← HN.out, List.take_length, ← List.length_map (f := tnOf)] at h
        have h2 := tns_of_own h
        rw [List.length_map, HN.out] at h2
        exact h2
      have HSUM : Hid (cuts.sum = s) := by
        have h := HS.out
        rw [hie, ← HN.out, List.take_length] at h
        exact h
      have HPOS : Hid (∀ c ∈ cuts, 0 ≤ c) := by
        have h := HA.out
        rw [hie, ← HN.out, List.take_length] at h
        exact fun c hc => (h c hc).1
      have HGW : Hid (w.grownBy wr none) := grown_trans hg1.out HG.out
      obtain ⟨wr0, hwr0⟩ : ∃ wr0 : World, wr0 = wr := ⟨_, rfl⟩
      subst hwr0
      have PC := Lib.hid (Play_calls f v ta tc (cuts.map tnOf) wr0 (HSEC.out.grown HGW.out) (by rw [List.length_map, HN.out]; exact HTN.out) (by rw [List.length_map, HN.out]; omega))
      rw [List.length_map, HN.out] at PC
      have hie2 := hie.symm
      subst hie2
      clear hie hn1 hs1 HS HA HO hi1
      by_cases hL : longE f = 0
      · have HL := Lib.hid hL
        obtain ⟨hfine, _, _, _, _⟩ := fine_of hL
        have HFINE := Lib.hid hfine
        clear hL hfine
        go_upto_region 14 with (go_at_call 9; refine (PC.out).mono ?_; rintro e2 w2 ⟨hp2, hg2⟩; rcases hp2.out with ⟨hx, _⟩ | ⟨_, v2, rfl, hpl2⟩; (exact absurd HL.out hx))
        obtain ⟨wb, rfl⟩ : ∃ wb : World, wb = w2 := ⟨_, rfl⟩
        have HPL := Lib.hid hpl2
        have HGB : Hid (w.grownBy wb none) := grown_trans HGW.out hg2.out
        clear hp2 hpl2
        have PC2 := Lib.hid (Play_calls f v (some ⟨wb.heap.size, 0, none⟩) 1 [⟨-1, s⟩] (wb.alloc (.cells #[.int .i64 (-1), .int .i64 s] 31)) (HSEC.out.grown (grown_alloc HGB.out _)) (turn1 wb (-1) s) (by simp))
        have HGB2 : Hid (w.grownBy (wb.alloc (.cells #[.int .i64 (-1), .int .i64 s] 31)) none) := grown_alloc HGB.out _
        have HGBB : Hid (wb.grownBy (wb.alloc (.cells #[.int .i64 (-1), .int .i64 s] 31)) none) := grown_alloc (grown_refl _ _) _
        rw [List.length_singleton] at PC2
        go_upto_region 15 with (go_at_call 9; refine (PC2.out).mono ?_; rintro e3 w3 ⟨hp3, hg3⟩; rcases hp3.out with ⟨hx, _⟩ | ⟨_, v3, rfl, hpl3⟩; (exact absurd HL.out hx))
        obtain ⟨wc, rfl⟩ : ∃ wc : World, wc = w3 := ⟨_, rfl⟩
        have HGC : Hid (w.grownBy wc none) := grown_trans HGB2.out hg3.out
        have HPA : Hid (Pls wc v2 (playR f 0 (cuts.map tnOf))) := pls_grown HPL.out (grown_trans HGBB.out hg3.out)
        have HPB : Hid (Pls wc v3 [turnR f 0 ⟨-1, s⟩]) := hpl3
        rw [go_turn] at HPB
        clear hp3 hpl3 HPL
        obtain ⟨a2, c2, rfl⟩ := slc_open HPA.out
        obtain ⟨a3, c3, rfl⟩ := slc_open HPB.out
        obtain ⟨b3, o3, ve3, rfl, _, r31, r32, _, hev3⟩ := pls_at HPB.out (k := 0) rfl
        rw [playR_len, List.length_map, HN.out] at HPA ⊢
        simp only [Nat.zero_mul, Nat.add_zero, List.length_cons, List.length_nil, Nat.zero_add] at r31 r32 ⊢
        by_cases hX : 4096 < (win 0 (0 + s) (playF f 0)).length
        · have he : (nextR f 0 s).2.2 = 5 := by unfold nextR; rw [if_neg (by omega), if_pos hX]
          rw [he] at r31
          clear r32 hev3 hX he HPA HPB
          go_wp2_with fail
          go_ret
          exact ⟨rfl, HGC.out⟩
        have hok := nextR_ok (f := f) (s := 0) (c := s) hs0 (by omega) (by omega)
        rw [hok] at r31 hev3
        obtain ⟨hp1, hp2⟩ := pieces HFINE.out cuts 0 (by omega) HPOS.out (by rw [HSUM.out]; omega) (by rw [HSUM.out]; omega)
        rw [HSUM.out] at hp2
        obtain ⟨X, hXX⟩ : ∃ X, win 0 (0 + s) (playF f 0) = X := ⟨_, rfl⟩
        have HMX : Hid (∀ e ∈ X, e.at_ ≤ 9223372036854775807) := by unfold Hid; rw [← hXX]; exact win_max (by omega)
        rw [hXX] at hX hp2 hev3
        obtain ⟨ps, hps⟩ : ∃ ps, playR f 0 (cuts.map tnOf) = ps := ⟨_, rfl⟩
        have HPSL : Hid (ps.length = n) := by unfold Hid; rw [← hps, playR_len, List.length_map, HN.out]
        rw [hps] at hp1 hp2 HPA
        have HP1 := Lib.hid hp1
        have HP2 := Lib.hid hp2
        have hXl : X.length ≤ 4096 := by omega
        have HEV3 := Lib.hid hev3
        simp only at r31
        obtain ⟨x3, y3, rfl⟩ := evs_len hev3
        obtain ⟨xn, hxn⟩ : ∃ xn, X.length = xn := ⟨_, rfl⟩
        have HXN := Lib.hid hxn
        simp only at r32
        rw [hxn] at r32 hXl
        clear hev3 hX hok hp1 hp2 hXX hps HPB hxn
        obtain ⟨B3, hB3⟩ : ∃ B3, wc.heap.size = B3 := ⟨_, rfl⟩
        have HB3 := Lib.hid hB3
        clear hB3
        go_wp2_with fail
        go_loopw [13, 77] (fun v13 v77 wr => ∃ j : Nat, j ≤ n ∧ v77 = .int .i64 (j : Int) ∧ Hid (wr.ownsRow B3 60 5 v13 ((ps.take j).flatMap (·.evs)).length (evC ((ps.take j).flatMap (·.evs)))) ∧ Hid (wc.grownBy wr none)) (fun _ v77 _ => n - (intOf v77).toNat)
        case atStart => exact ⟨0, Nat.zero_le _, rfl, World.ownsRow_nil _ _ _ _, grown_refl _ _⟩
        case round =>
          obtain ⟨j, hj1, rfl, HOJ, HGJ⟩ := hrel
          by_cases hje : j = n
          · have HOX : Hid (wr.ownsRow B3 60 5 u13 X.length (evC X)) := by
              have h := HOJ.out
              rw [hje, ← HPSL.out, List.take_length, HP2.out] at h
              exact h
            obtain ⟨a13, c13, rfl⟩ := own_slice HOX.out
            have hE13 : Evs wr (.slice a13 X.length c13) X := (evsA_of_own HOX.out HMX.out (fun _ => True) (fun _ _ => trivial)).evs
            have SQ := Lib.hid (same_calls a13 x3 c13 y3 X wr hE13 (evs_grown HEV3.out HGJ.out) (by rw [HXN.out]; omega))
            have HGF : Hid (w.grownBy wr none) := grown_trans HGC.out HGJ.out
            rw [HXN.out] at SQ ⊢
            have r32' := grown_cell HGJ.out r32 (by simp)
            clear hE13 r31 r32
            have hje2 := hje.symm
            subst hje2
            clear hje
            trace "r27"
            go_wp2_with (go_at_call 11; refine (SQ.out).mono ?_; rintro e4 w4 ⟨rfl, hg4⟩)
            go_ret
            exact ⟨rfl, grown_trans HGF.out hg4.out⟩
          have hjn : j < n := by omega
          have hjn2 : (j : Int) < (n : Int) := by omega
          obtain ⟨p, hp⟩ : ∃ p, ps[j]? = some p := ⟨ps[j]'(by have := HPSL.out; unfold Hid at this; omega), List.getElem?_eq_getElem _⟩
          obtain ⟨pb, po, ve, rfl, q0, q1, q2, q3, hev⟩ := pls_at HPA.out hp
          have hpe := HP1.out p (List.mem_of_getElem? hp)
          have HFS := Lib.hid (flat_snoc ps j p hp)
          have hl1 := flat_take ps j
          have hl2 := flat_mem ps p (List.mem_of_getElem? hp)
          rw [HP2.out, HXN.out] at hl1 hl2
          rw [hpe] at q1
          have c0 := grown_cell HGJ.out q0 (by simp)
          have c1 := grown_cell HGJ.out q1 (by simp)
          have c2' := grown_cell HGJ.out q2 (by simp)
          have c3' := grown_cell HGJ.out q3 (by simp)
          have HEV := Lib.hid (evs_grown hev HGJ.out)
          obtain ⟨se, er, es, at_⟩ := p
          simp only at c0 c3' HEV HFS hl2 hev
          obtain ⟨xe, ye, rfl⟩ := evs_len hev
          obtain ⟨en, hen⟩ : ∃ en, es.length = en := ⟨_, rfl⟩
          have HEN := Lib.hid hen
          rw [hen] at c2' hl2
          clear q0 q1 q2 q3 hev hp hpe hen
          obtain ⟨Yj, hYj⟩ : ∃ Yj, (ps.take j).flatMap (·.evs) = Yj := ⟨_, rfl⟩
          rw [hYj] at HOJ HFS hl1
          clear hYj
          have hsz : B3 ≤ wr.heap.size := by rw [← HB3.out]; exact HGJ.out.size
          obtain ⟨sb, hsb⟩ : ∃ sb, wr.heap.size = sb := ⟨_, rfl⟩
          have HSB := Lib.hid hsb
          clear hsb
          go_upto_region 23 with fail
          simp only [HSB.out]
          obtain ⟨wx, hwx⟩ : ∃ wx, wr.alloc (.cells #[.int .i64 se, .int .i64 0, .slice xe en ye, .int .i64 at_] 36) = wx := ⟨_, rfl⟩
          have HGX : Hid (wr.grownBy wx none) := by unfold Hid; rw [← hwx]; exact grown_alloc (grown_refl _ _) _
          have HRX : Hid (wx.heap[sb]? = some (.cells #[.int .i64 se, .int .i64 0, .slice xe en ye, .int .i64 at_] 36 (0, 0))) := by unfold Hid; rw [← hwx, ← HSB.out]; exact heap_alloc_new _ _
          simp only [hwx]
          clear hwx c0 c1 c2' c3'
          have d1 := cell_of HRX.out 1
          have d2 := cell_of HRX.out 2
          have HOX : Hid (wx.ownsRow B3 60 5 u13 Yj.length (evC Yj)) := own_kept HOJ.out HGX.out
          have HEX : Hid (Evs wx (.slice xe en ye) es) := by have := evs_grown HEV.out HGX.out; rw [HEN.out] at this; exact this
          have hszx : B3 ≤ wx.heap.size := Nat.le_trans (by rw [HSB.out] at hsz; rw [HSB.out]; exact hsz) HGX.out.size
          go_upto_region 26 with (at_builtin; refine append_more rfl _ _ rfl B3 u13 Yj wx xe ye es rfl HOX.out (by rw [HEN.out]; rfl) (by rw [HEN.out]; exact HEX.out) (by rw [HEN.out]; omega) hszx ?_; intro v9 w9 hown9 hg9)
          have HO9 : Hid (w9.ownsRow B3 60 5 v9 ((ps.take (j + 1)).flatMap (·.evs)).length (evC ((ps.take (j + 1)).flatMap (·.evs)))) := by
            unfold Hid
            rw [HFS.out]
            exact hown9.out
          have HG9 : Hid (wc.grownBy w9 none) := grown_own (grown_trans HGJ.out HGX.out) HOX.out (by rw [HB3.out]; exact Nat.le_refl _) hg9.out
          clear d1 d2
          go_wp2_with fail
          refine ⟨?_, by simp [intOf]; omega⟩
          first
            | exact ⟨j + 1, by omega, rfl, HO9.out, HG9.out⟩
            | (repeat apply Exists.intro
               refine ⟨?_, rfl⟩
               exact ⟨j + 1, by omega, rfl, HO9.out, HG9.out⟩)
      · have HL := Lib.hid hL
        obtain ⟨LE, hLE⟩ : ∃ LE, longE f = LE := ⟨_, rfl⟩
        have hz : (LE != 0) = true := by rw [← hLE]; simpa using hL
        have HLE := Lib.hid hLE
        clear hL hLE
        go_upto_region 14 with (go_at_call 9; refine (PC.out).mono ?_; rintro e2 w2 ⟨hp2, hg2⟩; rcases hp2.out with ⟨_, rfl⟩ | ⟨hx, _⟩; rotate_left; (exact absurd hx HL.out); rw [HLE.out])
        obtain ⟨wb, rfl⟩ : ∃ wb : World, wb = w2 := ⟨_, rfl⟩
        have HGB : Hid (w.grownBy wb none) := grown_trans HGW.out hg2.out
        clear hp2
        have PC2 := Lib.hid (Play_calls f v (some ⟨wb.heap.size, 0, none⟩) 1 [⟨-1, s⟩] (wb.alloc (.cells #[.int .i64 (-1), .int .i64 s] 31)) (HSEC.out.grown (grown_alloc HGB.out _)) (turn1 wb (-1) s) (by simp))
        have HGB2 : Hid (w.grownBy (wb.alloc (.cells #[.int .i64 (-1), .int .i64 s] 31)) none) := grown_alloc HGB.out _
        rw [List.length_singleton] at PC2
        go_upto_region 15 with (go_at_call 9; refine (PC2.out).mono ?_; rintro e3 w3 ⟨hp3, hg3⟩; rcases hp3.out with ⟨_, rfl⟩ | ⟨hx, _⟩; rotate_left; (exact absurd hx HL.out); rw [HLE.out])
        obtain ⟨wc, rfl⟩ : ∃ wc : World, wc = w3 := ⟨_, rfl⟩
        have HGC : Hid (w.grownBy wc none) := grown_trans HGB2.out hg3.out
        clear hp3
        go_wp2_with fail
        go_ret
        exact ⟨rfl, HGC.out⟩
    have hin : i < n := by omega
    have hin2 : (i : Int) < (n : Int) := by omega
    obtain ⟨c, hc⟩ : ∃ c, cuts[i]? = some c := ⟨cuts[i]'(by have := HN.out; unfold Hid at this; omega), List.getElem?_eq_getElem _⟩
    obtain ⟨b, o, rfl, c0⟩ := ils_at HC.out hc
    have HGW : Hid (w.grownBy wr none) := grown_trans hg1.out HG.out
    have c0 := grown_cell HGW.out c0 (by simp)
    have HTK : Hid (cuts.take (i + 1) = cuts.take i ++ [c]) := by unfold Hid; rw [List.take_add_one, hc]; rfl
    clear hc
    by_cases z0 : c < 0
    · go_wp2_with fail
      go_ret
      exact ⟨rfl, HGW.out⟩
    have z0' : (0 : Int) ≤ c := by omega
    clear z0
    by_cases z1 : 1099511627776 < c
    · go_wp2_with fail
      go_ret
      exact ⟨rfl, HGW.out⟩
    have z1' : c ≤ 1099511627776 := by omega
    clear z1
    by_cases z2 : 1000 < n
    · have z2' : (1000 : Int) < (n : Int) := by omega
      go_wp2_with fail
      go_ret
      exact ⟨rfl, HGW.out⟩
    have z2' : (n : Int) ≤ 1000 := by omega
    have HN1K : Hid (n ≤ 1000) := by unfold Hid; omega
    clear z2 hn1
    obtain ⟨wn, hwn⟩ : ∃ wn : World, wn = wr := ⟨_, rfl⟩
    subst hwn
    go_upto_region 8 with fail
    go_cut [34] from 24 to 34 (fun cx wx => cx = .bool false ∧ wx = wn)
    case first =>
      go_wp2_with fail
      go_meet
      exact ⟨by rw [decide_eq_false (show ¬ c < 0 by omega), decide_eq_false (show ¬ 1099511627776 < c by omega), decide_eq_false (show ¬ (1000 : Int) < (n : Int) by omega)]; rfl, rfl⟩
    obtain ⟨rfl, hwc⟩ := hcut
    subst hwc
    obtain ⟨wr, rfl⟩ : ∃ wr : World, wr = wc := ⟨_, rfl⟩
    have hi1000 : (i : Int) ≤ 1000 := by omega
    have esc : IntKind.i64.wrap (s + c) = s + c := IntWalk.i64_in _ (by omega)
    have hsz : B ≤ wr.heap.size := by rw [← HB.out]; exact HG.out.size
    go_upto_region 12 with (at_builtin; refine append_one rfl _ _ 23 rfl B 31 i0 _ 2 16 Try.underlying23 hi hz0 hz1 hz2 rfl (by decide) u6 i (tnC ((cuts.take i).map tnOf)) rfl wr _ _ HO.out rfl rfl (by simp [Value.oneCell']) (by unfold maxLen; omega) (by omega) hsz ?_; intro v9 w9 hown9 hg9 hat9)
    have HO9 : Hid (w9.ownsRow B 31 2 v9 (i + 1) (tnC ((cuts.take (i + 1)).map tnOf))) := by
      unfold Hid
      rw [HTK.out, List.map_append, List.map_cons, List.map_nil, tnC_snoc]
      exact hown9.out
    have HG9 : Hid (wa.grownBy w9 none) := grown_own HG.out HO.out (by rw [HB.out]; exact Nat.le_refl _) hg9.out
    have HS9 : Hid ((cuts.take (i + 1)).sum = s + c) := by
      unfold Hid
      rw [HTK.out, List.sum_append, HS.out]
      simp
    have HA9 : Hid (∀ x ∈ cuts.take (i + 1), 0 ≤ x ∧ x ≤ 1099511627776) := by
      intro x hx
      rw [HTK.out] at hx
      rcases List.mem_append.1 hx with h | h
      · exact HA.out x h
      · simp at h; subst h; exact ⟨z0', z1'⟩
    clear hat9 c0
    go_wp2_with fail
    refine ⟨?_, by simp [intOf]; omega⟩
    first
      | exact ⟨i + 1, s + c, by omega, rfl, rfl, by omega, by omega, fun _ => HN1K.out, HS9.out, HA9.out, HO9.out, HG9.out⟩
      | (repeat apply Exists.intro
         refine ⟨?_, rfl⟩
         exact ⟨i + 1, s + c, by omega, rfl, rfl, by omega, by omega, fun _ => HN1K.out, HS9.out, HA9.out, HO9.out, HG9.out⟩)
end Go.Proofs.Ythmcicmebaibgaa.TWndL
