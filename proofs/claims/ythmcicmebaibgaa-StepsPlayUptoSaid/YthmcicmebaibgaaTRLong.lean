/- long, the reference's: the walk. -/
import Derived.Test.YthmcicmebaibgaaTLong
import Derived.Test.YthmcicmebaibgaaTRWrong
namespace Go.Proofs.Ythmcicmebaibgaa.TRLong
open Go Go.RowKit Go.Proofs.Ythmcicmebaibgaa.WMod Go.Proofs.Ythmcicmebaibgaa.TMod Go.Proofs.Ythmcicmebaibgaa.TRead Go.Proofs.Ythmcicmebaibgaa.TLong Go.Proofs.Ythmcicmebaibgaa.Opn Go.Proofs.Ythmcicmebaibgaa.Hp Go.Proofs.Ythmcicmebaibgaa.Rd Go.Proofs.Ythmcicmebaibgaa.TWWrong Go.Proofs.Ythmcicmebaibgaa.TRWrong Go.Proofs.Ythmcicmebaibgaa.TSame
set_option linter.unusedVariables false
set_option linter.unusedSimpArgs false

set_option maxHeartbeats 6000000 in
set_option maxRecDepth 100000 in
theorem rlong_calls : ∀ (N : Nat) (f : For), f.size < N → ∀ (lv : Nat) (seen : Int) (v : Value) (w0 w : World), lv ≤ 33 → 0 ≤ seen → seen ≤ 256 → Secs w0 v f → w0.grownBy w none →
    Calls Try.prog 14 #[v, .int .i64 (lv : Int), .int .i64 seen] w fun e w' => e = .returned (.tuple #[.int .i64 (top lv f seen).1, .int .i64 (top lv f seen).2.1, .int .i64 (top lv f seen).2.2]) ∧ Hid (w.grownBy w' none) := by
  intro N
  induction N with
  | zero => intro f h; omega
  | succ N IH =>
    intro f hN lv seen v w0 w hlv hs0 hs1 hsec hg
    obtain ⟨ao, c, rfl⟩ := secs_open hsec
    have HSEC := Lib.hid hsec
    have IH' := Lib.hid (fun (k : For) (hk : k.size < f.size) => IH k (by omega))
    obtain ⟨n, hn⟩ : ∃ n, f.len = n := ⟨_, rfl⟩
    have HN := Lib.hid hn
    have HG := Lib.hid hg
    by_cases hlev : 32 < lv ∧ 0 < f.len
    · have ht : top lv f seen = (0, seen, 4) := if_pos hlev
      rw [ht]
      rw [hn] at hlev ⊢
      obtain ⟨h1, h2⟩ := hlev
      clear hsec hn hg ht IH
      have h1b : (32 : Int) < (lv : Int) := by omega
      have h2b : (0 : Int) < (n : Int) := by omega
      go_enter Try.func14, Try.ntmps14
      go_wp2_with fail
      go_ret3
      exact ⟨rfl, grown_refl _ _⟩
    have htop : top lv f seen = lng lv f seen 0 := if_neg hlev
    rw [htop]
    obtain ⟨RV, RS, RE, hres⟩ : ∃ a b c, lng lv f seen 0 = (a, b, c) := ⟨_, _, _, rfl⟩
    have HRES : Hid ((RV, RS, RE) = lng lv (f.drop 0) seen 0) := hres.symm
    rw [hres]
    rw [hn] at hlev ⊢
    simp only
    clear hsec hn hg htop hres IH
    go_enter Try.func14, Try.ntmps14
    go_upto_region 1 with fail
    go_cut [25] from 19 to 25 (fun c wx => c = .bool false ∧ wx = w)
    case first =>
      by_cases h1 : 32 < lv
      · obtain rfl : n = 0 := by omega
        have h1b : (32 : Int) < (lv : Int) := by omega
        go_wp2_with fail
        go_meet
        exact ⟨rfl, rfl⟩
      · have h1b : ¬ (32 : Int) < (lv : Int) := by omega
        go_wp2_with fail
        go_meet
        exact ⟨rfl, rfl⟩
    case rest =>
      obtain ⟨rfl, hwc⟩ := hcut
      subst hwc
      obtain ⟨w, rfl⟩ : ∃ w : World, w = wc := ⟨_, rfl⟩
      go_wp2_with fail
      go_loopw [2, 9, 29] (fun v2 v9 v29 wr => ∃ (i : Nat) (all sn : Int), i ≤ n ∧ v29 = .int .i64 (i : Int) ∧ v9 = .int .i64 all ∧ v2 = .int .i64 sn ∧ 0 ≤ all ∧ all ≤ 1125899906842624 ∧ (i : Int) ≤ sn ∧ sn ≤ 256 ∧ Hid ((RV, RS, RE) = lng lv (f.drop i) sn all) ∧ Hid (w.grownBy wr none)) (fun _ _ v29 _ => n - (intOf v29).toNat)
      case atStart => exact ⟨0, 0, seen, Nat.zero_le _, rfl, rfl, rfl, by omega, by omega, by omega, hs1, HRES.out, grown_refl _ _⟩
      case round =>
        clear HRES
        obtain ⟨i, all, sn, hi, rfl, rfl, rfl, hal0, hal1, hsn0, hsn1, HRES, HF⟩ := hrel
        by_cases hie : i = n
        · have hr : (RV, RS, RE) = (all, sn, 0) := by
            have h := HRES.out
            unfold Hid at h
            rw [hie, ← HN.out, For.drop_end] at h
            exact h
          simp only [Prod.mk.injEq] at hr
          obtain ⟨rfl, rfl, rfl⟩ := hr
          subst hie
          go_wp2_with fail
          go_ret3
          exact ⟨rfl, HF.out⟩
        have hin : i < n := by omega
        have hin2 : (i : Int) < (n : Int) := by omega
        obtain ⟨t, l, evs, k, r, hd⟩ := For.drop_cons (f := f) (n := i) (by rw [HN.out]; exact hin)
        obtain ⟨b, o, ve, vk, rfl, h0, h1, h2, h3, hev, hks⟩ := secs_at HSEC.out hd
        have HGR : Hid (w0.grownBy wr none) := grown_trans HG.out HF.out
        have c0 := grown_cell HGR.out h0 (by simp)
        have c1 := grown_cell HGR.out h1 (by simp)
        have c2 := grown_cell HGR.out h2 (by simp)
        have c3 := grown_cell HGR.out h3 (by simp)
        have HK := Lib.hid (For.size_kids hd)
        have HNX := Lib.hid (For.drop_succ i f hd)
        have HL := HRES.out
        unfold Hid at HL
        rw [hd, lng] at HL
        obtain ⟨ae, ce, rfl⟩ := evs_len hev
        obtain ⟨ak, ck, rfl⟩ := secs_open hks
        have HEV := Lib.hid hev
        have HKS := Lib.hid hks
        have HLN := Lib.hid HL
        obtain ⟨ne, hne⟩ : ∃ ne, evs.length = ne := ⟨_, rfl⟩
        obtain ⟨nk, hnk⟩ : ∃ nk, k.len = nk := ⟨_, rfl⟩
        have HNE := Lib.hid hne
        have HNK := Lib.hid hnk
        rw [hne] at c2
        rw [hnk] at c3
        clear HL hd h0 h1 h2 h3 hev hks HRES hne hnk HGR
        have HGN : Hid (wr.grownBy (wr.alloc (.cells #[.int .i64 t, .int .i64 l, .slice ae ne ce, .slice ak nk ck] 44)) none) := grown_alloc (grown_refl _ _) _
        obtain ⟨sb, hsb⟩ : ∃ sb, wr.heap.size = sb := ⟨_, rfl⟩
        have HRB : Hid ((wr.alloc (.cells #[.int .i64 t, .int .i64 l, .slice ae ne ce, .slice ak nk ck] 44)).heap[sb]? = some (.cells #[.int .i64 t, .int .i64 l, .slice ae ne ce, .slice ak nk ck] 44 (0, 0))) := by unfold Hid; rw [← hsb]; exact heap_alloc_new _ _
        have HSB := Lib.hid hsb
        clear hsb
        go_upto_region 7 with fail
        simp only [HSB.out]
        obtain ⟨wb, hwb⟩ : ∃ wb, wr.alloc (.cells #[.int .i64 t, .int .i64 l, .slice ae ne ce, .slice ak nk ck] 44) = wb := ⟨_, rfl⟩
        rw [hwb] at HRB HGN
        have HFB : Hid (w.grownBy wb none) := grown_trans HF.out HGN.out
        simp only [hwb]
        clear c0 c1 c2 c3 hwb HGN HF HSB
        by_cases q1 : 256 < sn + 1
        · have hr := HLN.out
          unfold Hid at hr
          rw [if_pos q1] at hr
          simp only [Prod.mk.injEq] at hr
          obtain ⟨rfl, rfl, rfl⟩ := hr
          go_wp2_with fail
          go_ret3
          exact ⟨rfl, HFB.out⟩
        have HL1 := Lib.hid ((HLN.out).trans (if_neg q1))
        clear HLN
        go_upto_region 10 with fail
        have b0 := cell_of HRB.out 0
        have b1 := cell_of HRB.out 1
        go_cut [55] from 38 to 55 (fun c wx => c = .bool (decide (t < 0 ∨ 65536 < t ∨ l < 0 ∨ 65536 < l)) ∧ wx = wb)
        case first =>
          clear HL1
          by_cases z1 : t < 0
          · go_wp2_with fail
            go_meet
            exact ⟨by simp [z1], rfl⟩
          by_cases z2 : 65536 < t
          · go_wp2_with fail
            go_meet
            exact ⟨by simp [z2], rfl⟩
          by_cases z3 : l < 0
          · go_wp2_with fail
            go_meet
            exact ⟨by simp [z3], rfl⟩
          by_cases z4 : 65536 < l
          · go_wp2_with fail
            go_meet
            exact ⟨by simp [z4], rfl⟩
          · go_wp2_with fail
            go_meet
            exact ⟨by simp [z1, z2, z3, z4], rfl⟩
        case rest =>
          obtain ⟨rfl, hwc⟩ := hcut
          subst hwc
          obtain ⟨wb, rfl⟩ : ∃ wb : World, wb = wc := ⟨_, rfl⟩
          by_cases q2 : t < 0 ∨ 65536 < t ∨ l < 0 ∨ 65536 < l
          · have hr := HL1.out
            unfold Hid at hr
            rw [if_pos q2] at hr
            simp only [Prod.mk.injEq] at hr
            obtain ⟨rfl, rfl, rfl⟩ := hr
            rw [decide_eq_true q2]
            clear q2
            go_wp2_with fail
            go_ret3
            exact ⟨rfl, HFB.out⟩
          have HL2 := Lib.hid ((HL1.out).trans (if_neg q2))
          rw [decide_eq_false q2]
          have ht0 : 0 ≤ t ∧ t ≤ 65536 := by omega
          have hl0 : 0 ≤ l ∧ l ≤ 65536 := by omega
          obtain ⟨ht0, ht1⟩ := ht0
          obtain ⟨hl0, hl1⟩ := hl0
          clear HL1 q2
          have b2 := cell_of HRB.out 2
          have WC := Lib.hid (rwrong_calls ae ce evs wb (by rw [HNE.out]; exact evs_grown (by have := HEV.out; unfold Hid at this; rw [HNE.out] at this; exact this) (grown_trans HG.out HFB.out)))
          obtain ⟨we, hwe⟩ : ∃ we, wrong evs = we := ⟨_, rfl⟩
          rw [hwe, HNE.out] at WC
          have HWE := Lib.hid hwe
          clear hwe b0 b1
          go_upto_region 13 with (go_at_call 21; refine (WC.out).mono ?_; rintro e1 w1 ⟨rfl, hg1⟩)
          have HF1 : Hid (w.grownBy w1 none) := grown_trans HFB.out hg1.out
          have HRB3 : Hid (w1.heap[sb]? = some (.cells #[.int .i64 t, .int .i64 l, .slice ae ne ce, .slice ak nk ck] 44 (0, 0))) := by unfold Hid; rw [hg1.out.block sb (lt_of HRB.out) (by simp)]; exact HRB.out
          clear b2 HRB HFB hg1 WC
          by_cases q3 : we ≠ 0
          · have hr := HL2.out
            unfold Hid at hr
            rw [if_pos (by rw [HWE.out]; exact q3), HWE.out] at hr
            simp only [Prod.mk.injEq] at hr
            obtain ⟨rfl, rfl, rfl⟩ := hr
            have q3b : (RE != 0) = true := by simpa using q3
            go_wp2_with fail
            go_ret3
            exact ⟨rfl, HF1.out⟩
          have q3' : we = 0 := by simpa using q3
          have HL3 := Lib.hid ((HL2.out).trans (if_neg (by rw [HWE.out]; exact q3)))
          subst q3'
          clear HL2 q3
          have b2 := cell_of HRB3.out 2
          have hne5 : ne ≤ 4096 := by
            have h := HWE.out
            unfold Hid wrong at h
            split at h
            · cases h
            · have := HNE.out; unfold Hid at this; omega
          go_wp2_with fail
          clear b2
          go_loopw [67] (fun v67 wr => ∃ j : Nat, j ≤ ne ∧ v67 = .int .i64 (j : Int) ∧ Hid (∀ q, q < j → ∀ e, evs[q]? = some e → e.at_ < l) ∧ Hid (w.grownBy wr none) ∧ Hid (wr.heap[sb]? = some (.cells #[.int .i64 t, .int .i64 l, .slice ae ne ce, .slice ak nk ck] 44 (0, 0)))) (fun v67 _ => ne - (intOf v67).toNat)
          case atStart => exact ⟨0, Nat.zero_le _, rfl, (fun q hq => absurd hq (by omega)), HF1.out, HRB3.out⟩
          case round =>
            clear HF1 HRB3
            obtain ⟨j, hj, rfl, HLT, HF1, HRB3⟩ := hrel
            by_cases hje : j = ne
            rotate_left
            · have hjn : j < ne := by omega
              have hjn2 : (j : Int) < (ne : Int) := by omega
              obtain ⟨ev, hev⟩ : ∃ ev, evs[j]? = some ev := ⟨evs[j]'(by have := HNE.out; unfold Hid at this; omega), List.getElem?_eq_getElem _⟩
              obtain ⟨eb, eo, rfl, hrg⟩ := evs_at (k := j) HEV.out hev
              have hgw := grown_trans HG.out HF1.out
              have e0 : wr.cell? ⟨eb, eo + j * 5, none⟩ = some (.int .i64 ev.at_) := grown_cell hgw (hrg 0 _ rfl) (by simp)
              have e1 : wr.cell? ⟨eb, eo + j * 5 + 1, none⟩ = some (.int .i64 ev.kind) := grown_cell hgw (hrg 1 _ rfl) (by simp)
              have e2 : wr.cell? ⟨eb, eo + j * 5 + 2, none⟩ = some (.int .i64 ev.ch) := grown_cell hgw (hrg 2 _ rfl) (by simp)
              have e3 : wr.cell? ⟨eb, eo + j * 5 + 3, none⟩ = some (.int .i64 ev.a) := grown_cell hgw (hrg 3 _ rfl) (by simp)
              have e4 : wr.cell? ⟨eb, eo + j * 5 + 4, none⟩ = some (.int .i64 ev.b) := grown_cell hgw (hrg 4 _ rfl) (by simp)
              have HEVJ := Lib.hid hev
              have hb1 := cell_of HRB3.out 1
              have HGA : Hid (wr.grownBy (wr.alloc (.cells #[.int .i64 ev.at_, .int .i64 ev.kind, .int .i64 ev.ch, .int .i64 ev.a, .int .i64 ev.b] 60)) none) := grown_alloc (grown_refl _ _) _
              have b1 : (wr.alloc (.cells #[.int .i64 ev.at_, .int .i64 ev.kind, .int .i64 ev.ch, .int .i64 ev.a, .int .i64 ev.b] 60)).cell? ⟨sb, 1, none⟩ = some (.int .i64 l) := grown_cell HGA.out hb1 (by simp)
              have hsbl : sb < wr.heap.size := lt_of HRB3.out
              obtain ⟨ea, hea⟩ : ∃ ea, ev.at_ = ea := ⟨_, rfl⟩
              have HEA := Lib.hid hea
              rw [hea] at e0 HGA b1
              clear hev hrg hgw hea
              by_cases q4 : l ≤ ea
              · have hr := HL3.out
                unfold Hid at hr
                rw [if_pos (by unfold lateB; rw [List.any_eq_true]; exact ⟨ev, List.mem_of_getElem? HEVJ.out, by rw [HEA.out]; simpa using q4⟩)] at hr
                simp only [Prod.mk.injEq] at hr
                obtain ⟨rfl, rfl, rfl⟩ := hr
                go_wp2_with fail
                go_ret3
                exact ⟨rfl, grown_trans HF1.out HGA.out⟩
              · have HLT2 : Hid (∀ q, q < j + 1 → ∀ e, evs[q]? = some e → e.at_ < l) := fun q hq e he => by
                  by_cases h : q = j
                  · subst h
                    have := HEVJ.out
                    unfold Hid at this
                    rw [he] at this
                    cases this
                    rw [HEA.out]
                    omega
                  · exact HLT.out q (by omega) e he
                have HRBA := Lib.hid ((HGA.out.block sb hsbl (by simp)).trans HRB3.out)
                clear hb1
                go_wp2_with fail
                refine ⟨?_, by simp [intOf]; omega⟩
                first
                  | exact ⟨j + 1, by omega, rfl, HLT2.out, grown_trans HF1.out HGA.out, HRBA.out⟩
                  | (repeat apply Exists.intro
                     refine ⟨?_, rfl⟩
                     exact ⟨j + 1, by omega, rfl, HLT2.out, grown_trans HF1.out HGA.out, HRBA.out⟩)
            have HNL : Hid (¬ lateB l evs = true) := by
              unfold Hid lateB
              rw [List.any_eq_true]
              rintro ⟨x, hx, hl⟩
              obtain ⟨q, hq, rfl⟩ := List.mem_iff_getElem.1 hx
              have h1 := HLT.out q (by have := HNE.out; unfold Hid at this; omega) _ (List.getElem?_eq_getElem hq)
              have h2 : l ≤ (evs[q]).at_ := by simpa using hl
              omega
            have HL4 := Lib.hid ((HL3.out).trans (if_neg HNL.out))
            clear HL3 HNL HLT
            have hje' := hje.symm
            subst hje'
            obtain ⟨w2, rfl⟩ : ∃ w2 : World, w2 = wr := ⟨_, rfl⟩
            have hlv : lv ≤ 32 := by omega
            obtain ⟨KV, KS, KE, hkres⟩ : ∃ a b c, top (lv + 1) k (sn + 1) = (a, b, c) := ⟨_, _, _, rfl⟩
            have hkt : (if 32 < lv + 1 ∧ 0 < k.len then ((0 : Int), sn + 1, (4 : Int)) else lng (lv + 1) k (sn + 1) 0) = (KV, KS, KE) := hkres
            have HKT := Lib.hid hkt
            have HL5 := HL4.out
            unfold Hid at HL5
            simp only [hkt] at HL5
            have HL6 := Lib.hid HL5
            clear HL4 HL5
            have RC := Lib.hid (IH'.out k HK.out (lv + 1) (sn + 1) (.slice ak nk ck) w0 w2 (by omega) (by omega) (by omega) (by have := HKS.out; unfold Hid at this; rw [HNK.out] at this; exact this) (grown_trans HG.out HF1.out))
            rw [hkres] at RC
            simp only at RC
            have b3 := cell_of HRB3.out 3
            clear hkt hkres
            go_upto_region 23 with (go_at_call 14; refine (RC.out).mono ?_; rintro e1 w3 ⟨rfl, hq3⟩)
            have HRB5 : Hid (w3.heap[sb]? = some (.cells #[.int .i64 t, .int .i64 l, .slice ae ne ce, .slice ak nk ck] 44 (0, 0))) := by unfold Hid; rw [hq3.out.block sb (lt_of HRB3.out) (by simp)]; exact HRB3.out
            have HF3 : Hid (w.grownBy w3 none) := grown_trans HF1.out hq3.out
            clear b3 RC HRB3 HF1 hq3
            by_cases q5 : KE ≠ 0
            · have hr := HL6.out
              unfold Hid at hr
              rw [if_pos q5] at hr
              simp only [Prod.mk.injEq] at hr
              obtain ⟨rfl, rfl, rfl⟩ := hr
              have q5b : (RE != 0) = true := by simpa using q5
              go_wp2_with fail
              go_ret3
              exact ⟨rfl, HF3.out⟩
            have q5' : KE = 0 := by simpa using q5
            have HL7 := Lib.hid ((HL6.out).trans (if_neg q5))
            subst q5'
            clear HL6 q5
            have hk5 : ¬ (32 < lv + 1 ∧ 0 < k.len) := fun h => by
              have := HKT.out
              unfold Hid at this
              rw [if_pos h] at this
              simp at this
            have hkl : lng (lv + 1) k (sn + 1) 0 = (KV, KS, 0) := by
              have := HKT.out
              unfold Hid at this
              rw [if_neg hk5] at this
              exact this
            obtain ⟨g1, g2, g3, g4⟩ := lng_fine lv k (lv + 1) (sn + 1) 0 (by omega) (by unfold total; omega) (by rw [hkl])
            obtain ⟨g5, g6⟩ := lng_seen k (lv + 1) (sn + 1) 0 (by omega) (by omega) (by rw [hkl])
            rw [hkl] at g2 g5 g6
            simp only at g2 g5 g6
            have hkv0 : 0 ≤ KV := by omega
            have hkv1 : KV ≤ 1125899906842624 := by unfold total at g3; omega
            have hks : sn + 1 ≤ KS := by omega
            have hks2 : KS ≤ 256 := g6
            clear g1 g2 g3 g4 g5 g6 hkl hk5
            obtain ⟨tn, rfl⟩ : ∃ tn : Nat, t = tn := ⟨t.toNat, by omega⟩
            obtain ⟨X, hX⟩ : ∃ X, l + KV = X := ⟨_, rfl⟩
            have hX0 : 0 ≤ X := by omega
            have hX1 : X ≤ 1125899906842624 + 65536 := by omega
            have HX := Lib.hid hX
            have HL8 : Hid ((RV, RS, RE) = if 1125899906842624 < all + (tn : Int) * X then (0, KS, 4) else lng lv r KS (all + (tn : Int) * X)) := by
              have := HL7.out
              unfold Hid at this
              unfold Hid
              rw [hX] at this
              exact this
            clear hX HL7
            have HKS2 := Lib.hid hks
            go_wp2_with fail
            go_loopw [9, 18] (fun v9 v18 wr => ∃ (j : Nat) (Z : Int), j ≤ tn ∧ v18 = .int .i64 (j : Int) ∧ v9 = .int .i64 Z ∧ 0 ≤ Z ∧ Z ≤ 1125899906842624 ∧ Hid (Z = all + (j : Int) * X) ∧ Hid (wr = w3)) (fun _ v18 _ => tn - (intOf v18).toNat)
            case atStart => exact ⟨0, all, Nat.zero_le _, rfl, rfl, hal0, hal1, by unfold Hid; simp, rfl⟩
            case round =>
              obtain ⟨j, Z, hj, rfl, rfl, hZ0, hZ1, HZ, HW⟩ := hrel
              have HRB6 : Hid (wr.heap[sb]? = some (.cells #[.int .i64 (tn : Int), .int .i64 l, .slice ae ne ce, .slice ak nk ck] 44 (0, 0))) := by unfold Hid; rw [HW.out]; exact HRB5.out
              have b0 := cell_of HRB6.out 0
              have b1 := cell_of HRB6.out 1
              by_cases hje : j = tn
              · have HL9 : Hid ((RV, RS, RE) = lng lv (f.drop (i + 1)) KS Z) := by
                  have := HL8.out
                  unfold Hid at this ⊢
                  rw [← hje, ← HZ.out, if_neg (by omega)] at this
                  rw [HNX.out]
                  exact this
                have HF6 : Hid (w.grownBy wr none) := by unfold Hid; rw [HW.out]; exact HF3.out
                have hje2 := hje.symm
                subst hje2
                go_wp2_with fail
                refine ⟨?_, by simp [intOf]; omega⟩
                first
                  | exact ⟨i + 1, Z, KS, by omega, rfl, rfl, rfl, by omega, by omega, by omega, by omega, HL9.out, HF6.out⟩
                  | (repeat apply Exists.intro
                     refine ⟨?_, rfl⟩
                     exact ⟨i + 1, Z, KS, by omega, rfl, rfl, rfl, by omega, by omega, by omega, by omega, HL9.out, HF6.out⟩)
              have hjt : j < tn := by omega
              have hjt2 : (j : Int) < (tn : Int) := by omega
              have hx := HX.out
              unfold Hid at hx
              have eS : Z + l + KV = Z + X := by omega
              by_cases q7 : 1125899906842624 < Z + X
              · have hr := HL8.out
                unfold Hid at hr
                rw [if_pos (by
                  have h1 := HZ.out
                  unfold Hid at h1
                  have h2 : ((j : Int) + 1) * X ≤ (tn : Int) * X := Int.mul_le_mul_of_nonneg_right (by omega) hX0
                  rw [Int.add_mul, Int.one_mul] at h2
                  omega)] at hr
                simp only [Prod.mk.injEq] at hr
                obtain ⟨rfl, rfl, rfl⟩ := hr
                have HF6 : Hid (w.grownBy wr none) := by unfold Hid; rw [HW.out]; exact HF3.out
                clear hx
                go_wp2_with fail
                go_ret3
                exact ⟨rfl, HF6.out⟩
              · have HZ2 : Hid (Z + X = all + ((j + 1 : Nat) : Int) * X) := by
                  have h1 := HZ.out
                  unfold Hid at h1 ⊢
                  rw [Int.natCast_add, Int.add_mul]
                  simp
                  omega
                clear hx
                go_wp2_with fail
                refine ⟨?_, by simp [intOf]; omega⟩
                first
                  | exact ⟨j + 1, Z + X, by omega, rfl, rfl, by omega, by omega, HZ2.out, HW.out⟩
                  | (repeat apply Exists.intro
                     refine ⟨?_, rfl⟩
                     exact ⟨j + 1, Z + X, by omega, rfl, rfl, by omega, by omega, HZ2.out, HW.out⟩)

end Go.Proofs.Ythmcicmebaibgaa.TRLong
