/- The reference's Unpack. -/
import Derived.Test.YtffdglhjfpnbpaaWRWrong
import Derived.Test.YtffdglhjfpnbpaaWUnpack
import Derived.Deep.CutBlock
namespace Go.Proofs.Ytffdglhjfpnbpaa.WRUnp
open Go Go.RowKit Go.Proofs.Ytffdglhjfpnbpaa.WMod Go.Proofs.Ytffdglhjfpnbpaa.WUMod Go.Proofs.Ytffdglhjfpnbpaa.WTMod Go.Proofs.Ytffdglhjfpnbpaa.Opn Go.Proofs.Ytffdglhjfpnbpaa.Hp Go.Proofs.Ytffdglhjfpnbpaa.Rd Go.Proofs.Ytffdglhjfpnbpaa.WWrong Go.Proofs.Ytffdglhjfpnbpaa.WWait Go.Proofs.Ytffdglhjfpnbpaa.WPack Go.Proofs.Ytffdglhjfpnbpaa.WLow Go.Proofs.Ytffdglhjfpnbpaa.WRWait Go.Proofs.Ytffdglhjfpnbpaa.WEvent Go.Proofs.Ytffdglhjfpnbpaa.WUnpack Go.Proofs.Ytffdglhjfpnbpaa.WRWrong
set_option linter.unusedVariables false
set_option linter.unusedSimpArgs false

/-- Where the reader stands, in memory. -/
def AAt (w : World) (g p : Nat) : Prop := w.heap[g]? = some (.cells #[.int .i64 p] 3 (0, 0))

set_option maxHeartbeats 400000 in
set_option maxRecDepth 100000 in
theorem bad_calls (g p : Nat) (w : World) (h : AAt w g p) :
    Calls Try.prog 21 #[.pointer (some ⟨g, 0, none⟩)] w fun e w' => e = .returned (.tuple #[.slice none 0 0, .agg #[.int .i64 2, .int .i64 p]]) ∧ Hid (w.grownBy w' none) := by
  have c0 : w.cell? ⟨g, 0, none⟩ = some (.int .i64 p) := cell_of h 0
  have hg : g < w.heap.size := lt_of h
  clear h
  go_enter Try.func21, Try.ntmps21
  go_wp2_with fail
  go_region
  all_goals
    go_wp2_with fail
    refine bodyPost_ret (v := .tuple #[.slice none 0 0, .agg #[.int .i64 2, .int .i64 (p : Nat)]]) (by simp [results, Try.results21, go_sem]) rfl ?_
    exact ⟨rfl, grown_drew (grown_alloc (grown_refl _ _) _)⟩

theorem grown_row0 {a b : World} {k : Nat} {o : Obj} (h : a.grownBy b none) (hk : a.heap[k]? = some o) : b.heap[k]? = some o := by
  rw [h.block k (lt_of hk) (by simp)]
  exact hk

theorem aat_set {w : World} {g p : Nat} (h : AAt w g p) (q : Nat) : AAt (w.setCell ⟨g, 0, none⟩ (.int .i64 (q : Int))) g q := by
  unfold AAt
  rw [set_self (w := w) (b := g) (o := 0) h]
  rfl

set_option maxHeartbeats 8000000 in
set_option maxRecDepth 100000 in
theorem runpack_calls (s : ByteArray) (w : World) (hs : s.size ≤ 140737488355328) : Calls Try.prog 12 #[.string s] w fun e w' => UnPost (unpack (bl s)) w e w' := by
  obtain ⟨R, hR⟩ : ∃ R, unpack (bl s) = R := ⟨_, rfl⟩
  have HR0 : Hid (R = U s 0 0 0 []) := by unfold Hid U; rw [← hR]; unfold unpack; rw [bl_len]; rfl
  rw [hR]
  obtain ⟨i0, hi, hz0, hz1, hz2⟩ := info_parts info36
  clear hR
  go_enter Try.func12, Try.ntmps12
  go_wp2_with fail
  obtain ⟨f, hf⟩ : ∃ f, w.heap.size = f := ⟨_, rfl⟩
  obtain ⟨w1, hw1⟩ : ∃ w1, (w.alloc (.cells #[.int .i64 0, .int .i64 0] 30)).alloc (.cells #[.int .i64 0] 3) = w1 := ⟨_, rfl⟩
  have HF1 : Hid (w1.heap[f]? = some (.cells #[.int .i64 0, .int .i64 0] 30 (0, 0))) := by
    unfold Hid
    rw [← hw1, Below.heap_alloc _ _ _ (by simp; omega), ← hf]
    exact heap_alloc_new _ _
  have HA1 : Hid (AAt w1 (f + 1) 0) := by
    unfold Hid AAt
    rw [← hw1, ← hf]
    have := heap_alloc_new (w.alloc (.cells #[.int .i64 0, .int .i64 0] 30)) (.cells #[.int .i64 0] 3)
    rw [show (w.alloc (.cells #[.int .i64 0, .int .i64 0] 30)).heap.size = w.heap.size + 1 from by simp] at this
    exact this
  have HG1 : Hid (w.grownBy w1 none) := by rw [← hw1]; exact grown_alloc (grown_alloc (grown_refl _ _) _) _
  have HB1 : Hid (f + 1 + 1 ≤ w1.heap.size) := by unfold Hid; rw [← hw1]; simp; omega
  obtain ⟨g, hg⟩ : ∃ g, f + 1 = g := ⟨_, rfl⟩
  have hgf : f < g := by omega
  have hwf : w.heap.size ≤ f := by omega
  rw [hg] at HA1 HB1
  simp only [hf, hw1, hg]
  clear hw1 hf hg
  go_loopw [4, 6, 7] (fun v l t wr => ∃ (p last st : Nat) (acc : List Ev), p ≤ s.size ∧ l = .int .i64 (last : Int) ∧ t = .int .i64 (st : Int) ∧ Hid (stOk st) ∧ acc.length ≤ 4096 ∧ last ≤ acc.length * 268435456 ∧ Hid (∀ e ∈ acc, e.at_ ≤ 9223372036854775807) ∧ Hid (R = U s p last st acc) ∧ Hid (AAt wr g p) ∧
    Hid (wr.heap[f]? = some (.cells #[.int .i64 0, .int .i64 0] 30 (0, 0))) ∧ Hid (wr.ownsRow (g + 1) 36 5 v acc.length (evC acc)) ∧ Hid (w.grownBy wr none) ∧ Hid (g + 1 ≤ wr.heap.size)) (fun _ _ _ wr => s.size - (match wr.cell? ⟨g, 0, none⟩ with | some v => (intOf v).toNat | none => 0))
  case atStart => exact ⟨0, 0, 0, [], Nat.zero_le _, rfl, rfl, .inl rfl, by simp, by simp, (fun e h => by cases h), HR0, HA1, HF1, World.ownsRow_nil _ _ _ _, HG1, HB1⟩
  case round =>
    clear HR0 HA1 HF1 HG1 HB1
    obtain ⟨p, last, st, acc, hp, rfl, rfl, HSK, hacc, hlast, HM, HR, HA, HF, HO, HG, HB⟩ := hrel
    have hst : st < 256 := by rcases HSK.out with h | h <;> omega
    obtain ⟨wo, rfl⟩ : ∃ wo, wo = wr := ⟨_, rfl⟩
    obtain ⟨n, hn⟩ : ∃ n, acc.length = n := ⟨_, rfl⟩
    have HN := Lib.hid hn
    obtain ⟨ao, cap, hv⟩ : ∃ ao cap, u4 = .slice ao n cap := by
      rw [hn] at HO
      rcases HO.out.2 with ⟨rfl, rfl⟩ | ⟨b, cap, _, rfl, _⟩
      · exact ⟨_, _, rfl⟩
      · exact ⟨_, _, rfl⟩
    subst hv
    rw [hn] at hacc hlast HO
    clear hn
    have c1 : wo.cell? ⟨g, 0, none⟩ = some (.int .i64 p) := cell_of HA.out 0
    have q0 : wo.cell? ⟨f, 0, none⟩ = some (.int .i64 0) := cell_of HF.out 0
    have q1 : wo.cell? ⟨f, 1, none⟩ = some (.int .i64 0) := cell_of HF.out 1
    have qf0 : wo.frozen? ⟨f, 0, none⟩ = false := free_of HF.out 0
    have qf1 : wo.frozen? ⟨f, 1, none⟩ = false := free_of HF.out 1
    by_cases hps : p = s.size
    · subst hps
      have HX : Hid (R = .ok acc) := HR.out.trans (U_end _ _ _ _)
      go_wp2_with fail
      refine bodyPost_ret (v := .tuple #[.slice ao n cap, .agg #[.int .i64 0, .int .i64 0]]) (by simp [results, Try.results12, go_sem, q0, q1]) rfl ?_
      exact un_ok HX.out HN.out HO.out HM.out HG.out hgf hwf (grown_set (p := ⟨f, 1, none⟩) (grown_set (p := ⟨f, 0, none⟩) (grown_refl _ _) (.inl rfl) _) (.inl rfl) _)
    have hplt : p < s.size := by omega
    by_cases hn4 : n = 4096
    · have HX : Hid (R = .error (5, p)) := by unfold Hid; rw [HR.out, U_on hplt, HN.out, if_pos hn4]
      subst hn4
      clear HR HO
      go_wp2_with fail
      go_region
      all_goals
        go_wp2_with fail
        refine bodyPost_ret (v := .tuple #[.slice none 0 0, .agg #[.int .i64 5, .int .i64 (p : Nat)]]) (by simp [results, Try.results12, go_sem, q0, q1]) rfl ?_
        exact un_bad HX.out HG.out hwf (grown_drew (grown_set (p := ⟨f, 1, none⟩) (grown_set (p := ⟨f, 0, none⟩) (grown_refl _ _) (.inl rfl) _) (.inl rfl) _))
    have hn5 : ((n : Int) == 4096) = false := by rw [beq_eq_false_iff_ne]; omega
    have hu := HR.out.trans (U_on hplt last st acc)
    rw [HN.out, if_neg hn4] at hu
    obtain ⟨⟨q, o⟩, hw⟩ : ∃ r, waitP (bl s) 4 0 p = r := ⟨_, rfl⟩
    rw [hw] at hu
    have HU := Lib.hid hu
    have HW0 := Lib.hid hw.symm
    clear hu hw HR
    go_upto_block 2 with fail
    go_cut [9, 10, 11] from 14 to 166 (fun v9 v10 v11 wx => ∃ n0 : Nat, o = some n0 ∧ v9 = .int .i64 (n0 : Int) ∧ Hid (AAt wx g q) ∧ Hid (wo.grownBy wx (some g)))
    case first =>
      have HP0 : Hid ((q, o) = waitP (bl s) (4 - 0) 0 p) := HW0
      clear HW0
      go_wp2_with fail
      go_loopw [9, 10] (fun v i wr => ∃ k m y : Nat, k ≤ 3 ∧ y ≤ s.size ∧ i = .int .i64 (k : Int) ∧ v = .int .i64 (m : Int) ∧ Hid (m < 128 ^ k) ∧ Hid ((q, o) = waitP (bl s) (4 - k) m y) ∧ Hid (AAt wr g y) ∧ Hid (wo.grownBy wr (some g))) (fun _ i _ => 4 - (intOf i).toNat)
      case atStart => exact ⟨0, 0, p, by omega, hp, rfl, rfl, (by decide : (0 : Nat) < 128 ^ 0), HP0, HA, grown_refl _ _⟩
      case round =>
        clear HP0 c1 q0 q1 qf0 qf1
        obtain ⟨k, m, y, hk, hy, rfl, rfl, HMK, HWP, HAwr, HGr⟩ := hrel
        have HFwr := Lib.hid (grown_row HGr.out HF.out (by omega))
        have HGwwr : Hid (w.grownBy wr none) := grown_from HG.out HGr.out (.inl (by omega))
        have c1 : wr.cell? ⟨g, 0, none⟩ = some (.int .i64 y) := cell_of HAwr.out 0
        have cf1 : wr.frozen? ⟨g, 0, none⟩ = false := free_of HAwr.out 0
        have hm128 : m < 2097152 := by
          have h1 := HMK.out
          have h2 : 128 ^ k ≤ 128 ^ 3 := Nat.pow_le_pow_right (by decide) hk
          have h3 : (128 : Nat) ^ 3 = 2097152 := by decide
          omega
        by_cases hys : y = s.size
        · subst hys
          have hx := HWP.out.trans (waitP_none _ (bl_none (Nat.le_refl _)))
          simp only [Prod.mk.injEq] at hx
          obtain ⟨rfl, rfl⟩ := hx
          have HX : Hid (R = .error (2, s.size)) := HU
          have B1 := Lib.hid (bad_calls g s.size wr HAwr.out)
          clear HWP HMK HGr HU
          go_wp2_with (go_at_call 21; refine (B1.out).mono ?_; rintro e wb ⟨rfl, hgb⟩; have HGb := Lib.hid hgb.out; clear hgb; have HFb := Lib.hid (grown_row0 HGb.out HFwr.out); have b0 : wb.cell? ⟨f, 0, none⟩ = some (.int .i64 0) := cell_of HFb.out 0; have b1 : wb.cell? ⟨f, 1, none⟩ = some (.int .i64 0) := cell_of HFb.out 1; have bf0 : wb.frozen? ⟨f, 0, none⟩ = false := free_of HFb.out 0; have bf1 : wb.frozen? ⟨f, 1, none⟩ = false := free_of HFb.out 1)
          refine bodyPost_ret (v := .tuple #[.slice none 0 0, .agg #[.int .i64 2, .int .i64 (s.size : Nat)]]) (by simp [results, Try.results12, go_sem, b0, b1]) rfl ?_
          exact un_bad HX.out (grown_trans HGwwr.out HGb.out) hwf (grown_set (p := ⟨f, 1, none⟩) (grown_set (p := ⟨f, 0, none⟩) (grown_refl _ _) (.inl rfl) _) (.inl rfl) _)
        have hylt : y < s.size := by omega
        have hyne : ((y : Int) == (s.size : Int)) = false := by rw [beq_eq_false_iff_ne]; omega
        have g1 := bl_get hylt
        obtain ⟨c, hc⟩ : ∃ c, s[y].toNat = c := ⟨_, rfl⟩
        have hc8 : c < 256 := by rw [← hc]; exact s[y].toNat_lt
        rw [hc] at g1
        have G1 := Lib.hid g1
        clear g1
        go_upto_region 8 with fail
        go_cut [46] from 23 to 65 (fun v46 wx => v46 = .bool (decide ((k = 0 ∧ c = 128) ∨ (k = 3 ∧ 127 < c))) ∧ wr = wx)
        case first =>
          clear HMK HWP HAwr HGr HFwr HGwwr HU cf1
          by_cases k0 : k = 0
          · subst k0
            by_cases c128 : c = 128
            · subst c128
              go_wp2_with fail
              go_meet
              exact ⟨by simp, rfl⟩
            · have f1 : ((c : Int) == 128) = false := by rw [beq_eq_false_iff_ne]; omega
              go_wp2_with fail
              go_meet
              exact ⟨congrArg Value.bool (by simp [c128]), rfl⟩
          have f0 : ((k : Int) == 0) = false := by rw [beq_eq_false_iff_ne]; omega
          by_cases k3 : k = 3
          · subst k3
            by_cases c127 : 127 < c
            · have f2 : decide ((128 : Int) ≤ (c : Int)) = true := by simp; omega
              go_wp2_with fail
              go_meet
              exact ⟨congrArg Value.bool (by simp [c127]), rfl⟩
            · have f2 : decide ((128 : Int) ≤ (c : Int)) = false := by simp; omega
              go_wp2_with fail
              go_meet
              exact ⟨congrArg Value.bool (by simp [c127]), rfl⟩
          · have f3 : ((k : Int) == 3) = false := by rw [beq_eq_false_iff_ne]; omega
            go_wp2_with fail
            go_meet
            exact ⟨congrArg Value.bool (by simp [k0, k3]), rfl⟩
        case rest =>
          obtain ⟨rfl, rfl⟩ := hcut
          by_cases hbad : (k = 0 ∧ c = 128) ∨ (k = 3 ∧ 127 < c)
          · simp only [hbad, decide_true]
            have hx := HWP.out
            rw [show 4 - k = (3 - k) + 1 from by omega] at hx
            have hx := hx.trans (waitP_bad G1.out (by omega))
            simp only [Prod.mk.injEq] at hx
            obtain ⟨rfl, rfl⟩ := hx
            have HX : Hid (R = .error (2, q)) := HU
            clear hbad
            have B1 := Lib.hid (bad_calls g q wr HAwr.out)
            clear HWP HMK HGr HU
            go_wp2_with (go_at_call 21; refine (B1.out).mono ?_; rintro e wb ⟨rfl, hgb⟩; have HGb := Lib.hid hgb.out; clear hgb; have HFb := Lib.hid (grown_row0 HGb.out HFwr.out); have b0 : wb.cell? ⟨f, 0, none⟩ = some (.int .i64 0) := cell_of HFb.out 0; have b1 : wb.cell? ⟨f, 1, none⟩ = some (.int .i64 0) := cell_of HFb.out 1; have bf0 : wb.frozen? ⟨f, 0, none⟩ = false := free_of HFb.out 0; have bf1 : wb.frozen? ⟨f, 1, none⟩ = false := free_of HFb.out 1)
            refine bodyPost_ret (v := .tuple #[.slice none 0 0, .agg #[.int .i64 2, .int .i64 (q : Nat)]]) (by simp [results, Try.results12, go_sem, b0, b1]) rfl ?_
            exact un_bad HX.out (grown_trans HGwwr.out HGb.out) hwf (grown_set (p := ⟨f, 1, none⟩) (grown_set (p := ⟨f, 0, none⟩) (grown_refl _ _) (.inl rfl) _) (.inl rfl) _)
          · simp only [hbad, decide_false]
            obtain ⟨d, hd⟩ : ∃ d, c % 128 = d := ⟨_, rfl⟩
            have hd1 : (c : Int) % 128 = (d : Int) := by rw [← hd]; rfl
            have hd2 : d < 128 := by omega
            obtain ⟨z, hz⟩ : ∃ z, m * 128 + d = z := ⟨_, rfl⟩
            have hz1 : 128 * (m : Int) + (d : Int) = (z : Int) := by omega
            have hz2 : z < 268435456 := by omega
            have hx := HWP.out
            rw [show 4 - k = (3 - k) + 1 from by omega] at hx
            by_cases c128 : c < 128
            · have hx := hx.trans (waitP_low G1.out (by omega) c128)
              rw [hd, hz] at hx
              simp only [Prod.mk.injEq] at hx
              obtain ⟨rfl, rfl⟩ := hx
              have f3 : decide ((c : Int) < 128) = true := by simp; omega
              have HA2 := Lib.hid (aat_set HAwr.out (y + 1))
              have HG2 : Hid (wo.grownBy (wr.setCell ⟨g, 0, none⟩ (.int .i64 ((y + 1 : Nat) : Int))) (some g)) := grown_set HGr.out (.inl rfl) _
              clear hbad hd hz hx HWP
              go_wp2_with fail
              go_meet
              exact ⟨z, rfl, rfl, HA2, HG2⟩
            · have hx := hx.trans (waitP_on G1.out (by omega) c128)
              rw [hd, hz] at hx
              have f3 : decide ((c : Int) < 128) = false := by simp; omega
              have hk2 : k ≤ 2 := by omega
              have HX : Hid ((q, o) = waitP (bl s) (4 - (k + 1)) z (y + 1)) := by unfold Hid; rw [show 4 - (k + 1) = 3 - k from by omega]; exact hx
              have HMK2 : Hid (z < 128 ^ (k + 1)) := by
                have h1 := HMK.out
                unfold Hid
                rw [Nat.pow_succ]
                omega
              have HA2 := Lib.hid (aat_set HAwr.out (y + 1))
              have HG2 : Hid (wo.grownBy (wr.setCell ⟨g, 0, none⟩ (.int .i64 ((y + 1 : Nat) : Int))) (some g)) := grown_set HGr.out (.inl rfl) _
              clear hbad hd hz hx HWP
              go_wp2_with fail
              go_roundw
              case rel => exact ⟨k + 1, z, y + 1, by omega, by omega, by go_num, rfl, HMK2, HX, HA2, HG2⟩
              case measure => simp [intOf]; omega
    case rest =>
      obtain ⟨n0, rfl, rfl, HAwc, HGowc⟩ := hcut
      have hu2 := HU.out
      simp only at hu2
      clear HU
      have HU := Lib.hid hu2
      clear hu2
      have hkw := waitP_le _ _ _ _ _ _ HW0.out.symm
      rw [bl_len] at hkw
      have hk28 := (waitP_back (bl_lt s) HW0.out.symm).1
      obtain ⟨hpq, hqs⟩ := hkw
      have HFwc := Lib.hid (grown_row HGowc.out HF.out (by omega))
      have HGwwc : Hid (w.grownBy wc none) := grown_from HG.out HGowc.out (.inl (by omega))
      clear HW0 c1 q0 q1 qf0 qf1
      have ga : wc.cell? ⟨g, 0, none⟩ = some (.int .i64 q) := cell_of HAwc.out 0
      have gf : wc.frozen? ⟨g, 0, none⟩ = false := free_of HAwc.out 0
      go_upto_region 15 with fail
      go_cut [75] from 14 to 166 (fun v wx => v = .bool (decide (q < s.size ∧ 127 < (bl s).getD q 0)) ∧ wc = wx)
      case first =>
        by_cases h1 : q < s.size
        · have g1 := bl_get h1
          have g2 : (bl s).getD q 0 = s[q].toNat := by rw [List.getD_eq_getElem?_getD, g1]; rfl
          have h2 : decide ((q : Int) < (s.size : Int)) = true := by simp; omega
          obtain ⟨c, hc⟩ : ∃ c, s[q].toNat = c := ⟨_, rfl⟩
          rw [hc] at g2
          obtain ⟨B, hB⟩ : ∃ B, decide ((128 : Int) ≤ (c : Int)) = B := ⟨_, rfl⟩
          have hB2 : B = decide (q < s.size ∧ 127 < (bl s).getD q 0) := by rw [← hB, g2]; exact decide_eq_decide.2 ⟨fun h => ⟨h1, by omega⟩, fun h => by omega⟩
          have HB2 := Lib.hid hB2
          clear hB2 g1 g2
          go_wp2_with fail
          go_meet
          exact ⟨by rw [HB2.out], rfl⟩
        · have h2 : decide ((q : Int) < (s.size : Int)) = false := by simp; omega
          have HB2 : Hid (false = decide (q < s.size ∧ 127 < (bl s).getD q 0)) := by unfold Hid; simp; omega
          go_wp2_with fail
          go_meet
          exact ⟨by rw [HB2.out], rfl⟩
      case rest =>
        obtain ⟨rfl, rfl⟩ := hcut
        by_cases hb : q < s.size ∧ 127 < (bl s).getD q 0
        · simp only [hb, and_self, decide_true]
          obtain ⟨h1, h2⟩ := hb
          have g1 := bl_get h1
          have g2 : (bl s).getD q 0 = s[q].toNat := by rw [List.getD_eq_getElem?_getD, g1]; rfl
          rw [g2] at h2
          clear g2
          obtain ⟨c, hc⟩ : ∃ c, s[q].toNat = c := ⟨_, rfl⟩
          have hc8 : c < 256 := by rw [← hc]; exact s[q].toNat_lt
          rw [hc] at g1 h2
          have hd := rdata_calls ((c / 16 : Nat) : Int)
          obtain ⟨kc, hkc⟩ : ∃ kc, c / 16 = kc := ⟨_, rfl⟩
          have hkc1 : (c : Int) / 16 = (kc : Int) := by rw [← hkc]; rfl
          rw [hkc] at hd
          have HD := Lib.hid hd
          by_cases hcs : c = st
          · have HX : Hid (R = .error (2, q)) := by
              unfold Hid
              rw [HU.out]
              have : eventP (bl s) st q = (q, st, none) := by
                unfold eventP statP
                rw [g1]
                simp only
                rw [if_pos h2, if_pos (.inr hcs)]
              rw [this]
            subst hcs
            clear hd g1 HU hkc
            have B1 := Lib.hid (bad_calls g (q) wc HAwc.out)
            go_wp2_with (first
              | (go_at_call 17; refine (HD.out _).mono ?_; rintro e w9 ⟨rfl, rfl⟩)
              | (go_at_call 21; refine (B1.out).mono ?_; rintro e wb ⟨rfl, hgb⟩; have HGb := Lib.hid hgb.out; clear hgb; have HFb := Lib.hid (grown_row0 HGb.out HFwc.out); have b0 : wb.cell? ⟨f, 0, none⟩ = some (.int .i64 0) := cell_of HFb.out 0; have b1 : wb.cell? ⟨f, 1, none⟩ = some (.int .i64 0) := cell_of HFb.out 1; have bf0 : wb.frozen? ⟨f, 0, none⟩ = false := free_of HFb.out 0; have bf1 : wb.frozen? ⟨f, 1, none⟩ = false := free_of HFb.out 1))
            refine bodyPost_ret (v := .tuple #[.slice none 0 0, .agg #[.int .i64 2, .int .i64 (q : Nat)]]) (by simp [results, Try.results12, go_sem, b0, b1]) rfl ?_
            exact un_bad HX.out (grown_trans HGwwc.out HGb.out) hwf (grown_set (p := ⟨f, 1, none⟩) (grown_set (p := ⟨f, 0, none⟩) (grown_refl _ _) (.inl rfl) _) (.inl rfl) _)
          have hcs1 : ((c : Int) == (st : Int)) = false := by rw [beq_eq_false_iff_ne]; omega
          by_cases hd0 : dataN (kc : Int) = 0
          · have HX : Hid (R = .error (2, q)) := by
              unfold Hid
              rw [HU.out]
              have : eventP (bl s) st q = (q, st, none) := by
                unfold eventP statP
                rw [g1]
                simp only
                rw [if_pos h2, if_pos (.inl (by rw [hkc]; exact hd0))]
              rw [this]
            rw [hd0] at HD
            clear hd g1 HU hkc hd0
            have B1 := Lib.hid (bad_calls g (q) wc HAwc.out)
            go_wp2_with (first
              | (go_at_call 17; refine (HD.out _).mono ?_; rintro e w9 ⟨rfl, rfl⟩)
              | (go_at_call 21; refine (B1.out).mono ?_; rintro e wb ⟨rfl, hgb⟩; have HGb := Lib.hid hgb.out; clear hgb; have HFb := Lib.hid (grown_row0 HGb.out HFwc.out); have b0 : wb.cell? ⟨f, 0, none⟩ = some (.int .i64 0) := cell_of HFb.out 0; have b1 : wb.cell? ⟨f, 1, none⟩ = some (.int .i64 0) := cell_of HFb.out 1; have bf0 : wb.frozen? ⟨f, 0, none⟩ = false := free_of HFb.out 0; have bf1 : wb.frozen? ⟨f, 1, none⟩ = false := free_of HFb.out 1))
            refine bodyPost_ret (v := .tuple #[.slice none 0 0, .agg #[.int .i64 2, .int .i64 (q : Nat)]]) (by simp [results, Try.results12, go_sem, b0, b1]) rfl ?_
            exact un_bad HX.out (grown_trans HGwwc.out HGb.out) hwf (grown_set (p := ⟨f, 1, none⟩) (grown_set (p := ⟨f, 0, none⟩) (grown_refl _ _) (.inl rfl) _) (.inl rfl) _)
          have HE : Hid (statP (bl s) st q = (q + 1, some c)) := by
            unfold Hid statP
            rw [g1]
            simp only
            rw [if_pos h2, if_neg (by simp only [not_or]; exact ⟨by rw [hkc]; exact hd0, hcs⟩)]
          have hd1 : (dataN (kc : Int) == 0) = false := by simpa using hd0
          clear hd g1 hkc
          go_upto_region 20 with (go_at_call 17; refine (HD.out _).mono ?_; rintro e w9 ⟨rfl, rfl⟩)
          clear hkc1 hd1 HD hd0
          obtain ⟨w2, hw2⟩ : ∃ w2, wc.setCell ⟨g, 0, none⟩ (.int .i64 ((q : Int) + 1)) = w2 := ⟨_, rfl⟩
          have HAw2 : Hid (AAt w2 g (q + 1)) := by rw [← hw2]; exact aat_set HAwc.out (q + 1)
          have HGow2 : Hid (wo.grownBy w2 (some g)) := by rw [← hw2]; exact grown_set HGowc.out (.inl rfl) _
          have HFw2 := Lib.hid (grown_row HGow2.out HF.out (by omega))
          have HGww2 : Hid (w.grownBy w2 none) := grown_from HG.out HGow2.out (.inl (by omega))
          rw [hw2]
          clear hw2 ga gf
          obtain ⟨d, hd16⟩ : ∃ d, c % 16 = d := ⟨_, rfl⟩
          obtain ⟨k, hk16⟩ : ∃ k, c / 16 = k := ⟨_, rfl⟩
          have HK := Lib.hid hk16
          have HDD := Lib.hid hd16
          have hmod : (c : Int) % 16 = (d : Int) := by rw [← hd16]; rfl
          have hdiv : (c : Int) / 16 = (k : Int) := by rw [← hk16]; rfl
          have hk17 : k < 16 := by omega
          have hd17 : d < 16 := by omega
          have hdk := rdata_calls (k : Int)
          obtain ⟨dn, hdn⟩ : ∃ dn, dataN (k : Int) = dn := ⟨_, rfl⟩
          have hdn3 : dn = 0 ∨ dn = 1 ∨ dn = 2 := by
            rw [← hdn]
            unfold dataN
            split
            · omega
            · split <;> omega
          have HSKD : Hid (dn ≠ 0 → stOk c) := by
            intro h0
            rw [← hdn, ← hk16] at h0
            rcases HSK.out with h | h
            · first
                | (exact .inr ⟨by omega, by omega, h0⟩)
                | (exfalso; subst h; exact h0 data0)
            · exact .inr ⟨by omega, by omega, h0⟩
          rw [hdn] at hdk
          have HD := Lib.hid hdk
          have HE2 : Hid (eventP (bl s) st q = if dn = 0 then (q + 1, c, none) else match lowP (bl s) (q + 1) with
                | (q1, none) => (q1, c, none)
                | (q1, some x) => if dn = 2 then (match lowP (bl s) q1 with
                    | (q2, none) => (q2, c, none)
                    | (q2, some y) => (q2, c, some (x, y))) else (q1, c, some (x, 0))) := by
            unfold Hid
            unfold eventP
            rw [HE.out]
            simp only
            rw [hk16, hdn]
            rfl
          clear hdk hdn hk16 hd16 HE
          have hq1 : q + 1 ≤ s.size := by omega
          have ga : w2.cell? ⟨g, 0, none⟩ = some (.int .i64 (q + 1 : Nat)) := cell_of HAw2.out 0
          have gf : w2.frozen? ⟨g, 0, none⟩ = false := free_of HAw2.out 0
          go_upto_region 21 with fail
          clear hmod hdiv
          obtain ⟨h, hh⟩ : ∃ h, w2.heap.size = h := ⟨_, rfl⟩
          obtain ⟨w3, hw3⟩ : ∃ w3, w2.alloc (.cells #[.int .i64 0, .int .i64 k, .int .i64 d, .int .i64 0, .int .i64 0] 36) = w3 := ⟨_, rfl⟩
          have HHw3 : Hid (w3.heap[h]? = some (.cells #[.int .i64 0, .int .i64 k, .int .i64 d, .int .i64 0, .int .i64 0] 36 (0, 0))) := by rw [← hw3, ← hh]; exact heap_alloc_new _ _
          have HAw3 : Hid (AAt w3 g (q + 1)) := by rw [← hw3]; exact row_alloc HAw2.out _
          have HFw3 : Hid (w3.heap[f]? = some (.cells #[.int .i64 0, .int .i64 0] 30 (0, 0))) := by rw [← hw3]; exact row_alloc HFw2.out _
          have HGow3 : Hid (wo.grownBy w3 (some g)) := by rw [← hw3]; exact grown_alloc HGow2.out _
          have HGww3 : Hid (w.grownBy w3 none) := by rw [← hw3]; exact grown_alloc HGww2.out _
          have hhw : wo.heap.size ≤ h := by rw [← hh]; exact HGow2.out.size
          have hgh : g < h := by rw [← hh]; exact lt_of HAw2.out
          simp only [hh, hw3]
          clear hh hw3 ga gf
          have ga : w3.cell? ⟨g, 0, none⟩ = some (.int .i64 (q + 1 : Nat)) := cell_of HAw3.out 0
          have gf : w3.frozen? ⟨g, 0, none⟩ = false := free_of HAw3.out 0
          have r0 : w3.cell? ⟨h, 0, none⟩ = some (.int .i64 0) := cell_of HHw3.out 0
          have r1 : w3.cell? ⟨h, 1, none⟩ = some (.int .i64 k) := cell_of HHw3.out 1
          have r2 : w3.cell? ⟨h, 2, none⟩ = some (.int .i64 d) := cell_of HHw3.out 2
          have r3 : w3.cell? ⟨h, 3, none⟩ = some (.int .i64 0) := cell_of HHw3.out 3
          have r4 : w3.cell? ⟨h, 4, none⟩ = some (.int .i64 0) := cell_of HHw3.out 4
          have rf0 : w3.frozen? ⟨h, 0, none⟩ = false := free_of HHw3.out 0
          have rf1 : w3.frozen? ⟨h, 1, none⟩ = false := free_of HHw3.out 1
          have rf2 : w3.frozen? ⟨h, 2, none⟩ = false := free_of HHw3.out 2
          have rf3 : w3.frozen? ⟨h, 3, none⟩ = false := free_of HHw3.out 3
          have rf4 : w3.frozen? ⟨h, 4, none⟩ = false := free_of HHw3.out 4
          by_cases hd0 : dn = 0
          · have HX : Hid (R = .error (2, q + 1)) := by unfold Hid; rw [HU.out, HE2.out, if_pos hd0]
            subst hd0
            clear HE2 hdn3 HSKD HU
            have B1 := Lib.hid (bad_calls g (q + 1) w3 HAw3.out)
            go_wp2_with (first
              | (go_at_call 17; refine (HD.out _).mono ?_; rintro e w9 ⟨rfl, rfl⟩)
              | (go_at_call 21; refine (B1.out).mono ?_; rintro e wb ⟨rfl, hgb⟩; have HGb := Lib.hid hgb.out; clear hgb; have HFb := Lib.hid (grown_row0 HGb.out HFw3.out); have b0 : wb.cell? ⟨f, 0, none⟩ = some (.int .i64 0) := cell_of HFb.out 0; have b1 : wb.cell? ⟨f, 1, none⟩ = some (.int .i64 0) := cell_of HFb.out 1; have bf0 : wb.frozen? ⟨f, 0, none⟩ = false := free_of HFb.out 0; have bf1 : wb.frozen? ⟨f, 1, none⟩ = false := free_of HFb.out 1))
            refine bodyPost_ret (v := .tuple #[.slice none 0 0, .agg #[.int .i64 2, .int .i64 (q + 1 : Nat)]]) (by simp [results, Try.results12, go_sem, b0, b1]) rfl ?_
            exact un_bad HX.out (grown_trans HGww3.out HGb.out) hwf (grown_set (p := ⟨f, 1, none⟩) (grown_set (p := ⟨f, 0, none⟩) (grown_refl _ _) (.inl rfl) _) (.inl rfl) _)
          have HSK2 := Lib.hid (HSKD.out hd0)
          have hd0' : (dn == 0) = false := by simpa using hd0
          by_cases hps1 : q + 1 = s.size
          · have hl : lowP (bl s) (q + 1) = (q + 1, none) := by unfold lowP; rw [bl_none (by omega)]
            have HX : Hid (R = .error (2, q + 1)) := by unfold Hid; rw [HU.out, HE2.out, if_neg hd0, hl]
            have hpc : (((q + 1 : Nat) : Int) == (s.size : Int)) = true := by rw [beq_iff_eq, hps1]
            have hpd : ((q + 1 : Int) == (s.size : Int)) = true := by rw [beq_iff_eq]; omega
            clear HE2 hdn3 HSKD HU hl hps1
            have B1 := Lib.hid (bad_calls g (q + 1) w3 HAw3.out)
            go_wp2_with (first
              | (go_at_call 17; refine (HD.out _).mono ?_; rintro e w9 ⟨rfl, rfl⟩)
              | (go_at_call 21; refine (B1.out).mono ?_; rintro e wb ⟨rfl, hgb⟩; have HGb := Lib.hid hgb.out; clear hgb; have HFb := Lib.hid (grown_row0 HGb.out HFw3.out); have b0 : wb.cell? ⟨f, 0, none⟩ = some (.int .i64 0) := cell_of HFb.out 0; have b1 : wb.cell? ⟨f, 1, none⟩ = some (.int .i64 0) := cell_of HFb.out 1; have bf0 : wb.frozen? ⟨f, 0, none⟩ = false := free_of HFb.out 0; have bf1 : wb.frozen? ⟨f, 1, none⟩ = false := free_of HFb.out 1))
            refine bodyPost_ret (v := .tuple #[.slice none 0 0, .agg #[.int .i64 2, .int .i64 (q + 1 : Nat)]]) (by simp [results, Try.results12, go_sem, b0, b1]) rfl ?_
            exact un_bad HX.out (grown_trans HGww3.out HGb.out) hwf (grown_set (p := ⟨f, 1, none⟩) (grown_set (p := ⟨f, 0, none⟩) (grown_refl _ _) (.inl rfl) _) (.inl rfl) _)
          have hlt1 : q + 1 < s.size := by omega
          have hne1 : (((q + 1 : Nat) : Int) == (s.size : Int)) = false := by rw [beq_eq_false_iff_ne]; omega
          have hnf1 : ((q + 1 : Int) == (s.size : Int)) = false := by rw [beq_eq_false_iff_ne]; omega
          have g1 := bl_get hlt1
          obtain ⟨x, hx⟩ : ∃ x, s[q + 1].toNat = x := ⟨_, rfl⟩
          have hx8 : x < 256 := by rw [← hx]; exact s[q + 1].toNat_lt
          rw [hx] at g1
          by_cases hx127 : 127 < x
          · have hl : lowP (bl s) (q + 1) = (q + 1, none) := by unfold lowP; rw [g1]; simp only; rw [if_pos hx127]
            have HX : Hid (R = .error (2, q + 1)) := by unfold Hid; rw [HU.out, HE2.out, if_neg hd0, hl]
            have hxb : decide ((128 : Int) ≤ (x : Int)) = true := by simp; omega
            clear HE2 hdn3 HSKD HU hl g1
            have B1 := Lib.hid (bad_calls g (q + 1) w3 HAw3.out)
            go_wp2_with (first
              | (go_at_call 17; refine (HD.out _).mono ?_; rintro e w9 ⟨rfl, rfl⟩)
              | (go_at_call 21; refine (B1.out).mono ?_; rintro e wb ⟨rfl, hgb⟩; have HGb := Lib.hid hgb.out; clear hgb; have HFb := Lib.hid (grown_row0 HGb.out HFw3.out); have b0 : wb.cell? ⟨f, 0, none⟩ = some (.int .i64 0) := cell_of HFb.out 0; have b1 : wb.cell? ⟨f, 1, none⟩ = some (.int .i64 0) := cell_of HFb.out 1; have bf0 : wb.frozen? ⟨f, 0, none⟩ = false := free_of HFb.out 0; have bf1 : wb.frozen? ⟨f, 1, none⟩ = false := free_of HFb.out 1))
            refine bodyPost_ret (v := .tuple #[.slice none 0 0, .agg #[.int .i64 2, .int .i64 (q + 1 : Nat)]]) (by simp [results, Try.results12, go_sem, b0, b1]) rfl ?_
            exact un_bad HX.out (grown_trans HGww3.out HGb.out) hwf (grown_set (p := ⟨f, 1, none⟩) (grown_set (p := ⟨f, 0, none⟩) (grown_refl _ _) (.inl rfl) _) (.inl rfl) _)
          have hl : lowP (bl s) (q + 1) = (q + 1 + 1, some x) := by unfold lowP; rw [g1]; simp only; rw [if_neg hx127]
          have hxb : decide ((128 : Int) ≤ (x : Int)) = false := by simp; omega
          have HE3 := HE2.out
          rw [if_neg hd0, hl] at HE3
          have HE4 := Lib.hid HE3
          clear HE2 HE3 hl g1
          go_upto_region 25 with (go_at_call 17; refine (HD.out _).mono ?_; rintro e w9 ⟨rfl, rfl⟩)
          obtain ⟨w4, hw4⟩ : ∃ w4, (w3.setCell ⟨h, 3, none⟩ (.int .i64 (x : Int))).setCell ⟨g, 0, none⟩ (.int .i64 ((q : Int) + 1 + 1)) = w4 := ⟨_, rfl⟩
          have HHw4 : Hid (w4.heap[h]? = some (.cells #[.int .i64 0, .int .i64 k, .int .i64 d, .int .i64 x, .int .i64 0] 36 (0, 0))) := by
            unfold Hid
            rw [← hw4, set_other (by dsimp only; omega), set_self (w := w3) (b := h) (o := 3) HHw3.out]
            rfl
          have HAw4 : Hid (AAt w4 g (q + 1 + 1)) := by
            rw [← hw4]
            refine aat_set (w := w3.setCell ⟨h, 3, none⟩ (.int .i64 (x : Int))) (p := q + 1) ?_ (q + 1 + 1)
            unfold AAt
            rw [set_other (by dsimp only; omega)]
            exact HAw3.out
          have HGow4 : Hid (wo.grownBy w4 (some g)) := by rw [← hw4]; exact grown_set (p := ⟨g, 0, none⟩) (grown_set (p := ⟨h, 3, none⟩) HGow3.out (.inr hhw) _) (.inl rfl) _
          have HFw4 := Lib.hid (grown_row HGow4.out HF.out (by omega))
          have HGww4 : Hid (w.grownBy w4 none) := grown_from HG.out HGow4.out (.inl (by omega))
          rw [hw4]
          clear hw4 ga gf HHw3 HAw3 HFw3 HGow3 HGww3
          clear r0 rf0 r1 rf1 r2 rf2 r3 rf3 r4 rf4
          have ga : w4.cell? ⟨g, 0, none⟩ = some (.int .i64 (q + 1 + 1 : Nat)) := cell_of HAw4.out 0
          have gf : w4.frozen? ⟨g, 0, none⟩ = false := free_of HAw4.out 0
          have r1 : w4.cell? ⟨h, 1, none⟩ = some (.int .i64 k) := cell_of HHw4.out 1
          have r4 : w4.cell? ⟨h, 4, none⟩ = some (.int .i64 0) := cell_of HHw4.out 4
          have rf4 : w4.frozen? ⟨h, 4, none⟩ = false := free_of HHw4.out 4
          by_cases hd2 : dn = 2
          · subst hd2
            clear hdn3
            have HE5 := HE4.out
            rw [if_pos rfl] at HE5
            have HE6 := Lib.hid HE5
            clear HE4 HE5
            by_cases hps2 : q + 1 + 1 = s.size
            · have hl : lowP (bl s) (q + 1 + 1) = (q + 1 + 1, none) := by unfold lowP; rw [bl_none (by omega)]
              have HX : Hid (R = .error (2, q + 1 + 1)) := by unfold Hid; rw [HU.out, HE6.out, hl]
              have hpc2 : (((q + 1 + 1 : Nat) : Int) == (s.size : Int)) = true := by rw [beq_iff_eq, hps2]
              have hpd2 : ((q + 1 + 1 : Int) == (s.size : Int)) = true := by rw [beq_iff_eq]; omega
              clear HE6 HSKD HU hl hps2
              have B1 := Lib.hid (bad_calls g ((q + 1 + 1)) w4 HAw4.out)
              go_wp2_with (first
                | (go_at_call 17; refine (HD.out _).mono ?_; rintro e w9 ⟨rfl, rfl⟩)
                | (go_at_call 21; refine (B1.out).mono ?_; rintro e wb ⟨rfl, hgb⟩; have HGb := Lib.hid hgb.out; clear hgb; have HFb := Lib.hid (grown_row0 HGb.out HFw4.out); have b0 : wb.cell? ⟨f, 0, none⟩ = some (.int .i64 0) := cell_of HFb.out 0; have b1 : wb.cell? ⟨f, 1, none⟩ = some (.int .i64 0) := cell_of HFb.out 1; have bf0 : wb.frozen? ⟨f, 0, none⟩ = false := free_of HFb.out 0; have bf1 : wb.frozen? ⟨f, 1, none⟩ = false := free_of HFb.out 1))
              refine bodyPost_ret (v := .tuple #[.slice none 0 0, .agg #[.int .i64 2, .int .i64 ((q + 1 + 1) : Nat)]]) (by simp [results, Try.results12, go_sem, b0, b1]) rfl ?_
              exact un_bad HX.out (grown_trans HGww4.out HGb.out) hwf (grown_set (p := ⟨f, 1, none⟩) (grown_set (p := ⟨f, 0, none⟩) (grown_refl _ _) (.inl rfl) _) (.inl rfl) _)
            have hlt2 : q + 1 + 1 < s.size := by omega
            have hne2 : (((q + 1 + 1 : Nat) : Int) == (s.size : Int)) = false := by rw [beq_eq_false_iff_ne]; omega
            have hnf2 : ((q + 1 + 1 : Int) == (s.size : Int)) = false := by rw [beq_eq_false_iff_ne]; omega
            have g1 := bl_get hlt2
            obtain ⟨y, hy⟩ : ∃ y, s[q + 1 + 1].toNat = y := ⟨_, rfl⟩
            have hy8 : y < 256 := by rw [← hy]; exact s[q + 1 + 1].toNat_lt
            rw [hy] at g1
            by_cases hy127 : 127 < y
            · have hl : lowP (bl s) (q + 1 + 1) = (q + 1 + 1, none) := by unfold lowP; rw [g1]; simp only; rw [if_pos hy127]
              have HX : Hid (R = .error (2, q + 1 + 1)) := by unfold Hid; rw [HU.out, HE6.out, hl]
              have hyb : decide ((128 : Int) ≤ (y : Int)) = true := by simp; omega
              clear HE6 HSKD HU hl g1
              have B1 := Lib.hid (bad_calls g ((q + 1 + 1)) w4 HAw4.out)
              go_wp2_with (first
                | (go_at_call 17; refine (HD.out _).mono ?_; rintro e w9 ⟨rfl, rfl⟩)
                | (go_at_call 21; refine (B1.out).mono ?_; rintro e wb ⟨rfl, hgb⟩; have HGb := Lib.hid hgb.out; clear hgb; have HFb := Lib.hid (grown_row0 HGb.out HFw4.out); have b0 : wb.cell? ⟨f, 0, none⟩ = some (.int .i64 0) := cell_of HFb.out 0; have b1 : wb.cell? ⟨f, 1, none⟩ = some (.int .i64 0) := cell_of HFb.out 1; have bf0 : wb.frozen? ⟨f, 0, none⟩ = false := free_of HFb.out 0; have bf1 : wb.frozen? ⟨f, 1, none⟩ = false := free_of HFb.out 1))
              refine bodyPost_ret (v := .tuple #[.slice none 0 0, .agg #[.int .i64 2, .int .i64 ((q + 1 + 1) : Nat)]]) (by simp [results, Try.results12, go_sem, b0, b1]) rfl ?_
              exact un_bad HX.out (grown_trans HGww4.out HGb.out) hwf (grown_set (p := ⟨f, 1, none⟩) (grown_set (p := ⟨f, 0, none⟩) (grown_refl _ _) (.inl rfl) _) (.inl rfl) _)
            have hl : lowP (bl s) (q + 1 + 1) = (q + 1 + 1 + 1, some y) := by unfold lowP; rw [g1]; simp only; rw [if_neg hy127]
            have HX : Hid (R = U s (q + 1 + 1 + 1) (last + n0) (c) (acc ++ [evOf last n0 (c) x y])) := by unfold Hid; rw [HU.out, HE6.out, hl]
            have hyb : decide ((128 : Int) ≤ (y : Int)) = false := by simp; omega
            clear HE6 HSKD HU hl g1
            go_upto_region 30 with (go_at_call 17; refine (HD.out _).mono ?_; rintro e w9 ⟨rfl, rfl⟩)
            obtain ⟨w5, hw5⟩ : ∃ w5, (w4.setCell ⟨h, 4, none⟩ (.int .i64 (y : Int))).setCell ⟨g, 0, none⟩ (.int .i64 ((q : Int) + 1 + 1 + 1)) = w5 := ⟨_, rfl⟩
            have HHw5 : Hid (w5.heap[h]? = some (.cells #[.int .i64 0, .int .i64 k, .int .i64 d, .int .i64 x, .int .i64 y] 36 (0, 0))) := by
              unfold Hid
              rw [← hw5, set_other (by dsimp only; omega), set_self (w := w4) (b := h) (o := 4) HHw4.out]
              rfl
            have HAw5 : Hid (AAt w5 g (q + 1 + 1 + 1)) := by
              rw [← hw5]
              refine aat_set (w := w4.setCell ⟨h, 4, none⟩ (.int .i64 (y : Int))) (p := q + 1 + 1) ?_ (q + 1 + 1 + 1)
              unfold AAt
              rw [set_other (by dsimp only; omega)]
              exact HAw4.out
            have HGow5 : Hid (wo.grownBy w5 (some g)) := by rw [← hw5]; exact grown_set (p := ⟨g, 0, none⟩) (grown_set (p := ⟨h, 4, none⟩) HGow4.out (.inr hhw) _) (.inl rfl) _
            rw [hw5]
            clear hw5 ga gf r1 r4 rf4
            have hev : R = U s (q + 1 + 1 + 1) (last + n0) c (acc ++ [evOf last n0 c x y]) := HX.out
            obtain ⟨L, hL⟩ : ∃ L, last + n0 = L := ⟨_, rfl⟩
            have hL2 : L ≤ (n + 1) * 268435456 := by omega
            have hL3 : L ≤ 1099780063232 := by omega
            have HC : Hid ((evOf last n0 c x y).cells = [.int .i64 L, .int .i64 k, .int .i64 d, .int .i64 x, .int .i64 (y : Nat)]) := by
              unfold Hid evOf Ev.cells
              rw [hL, HK.out, HDD.out]
            rw [hL] at hev
            have HX3 := Lib.hid hev
            have HMM : Hid (∀ e ∈ acc ++ [evOf last n0 c x y], e.at_ ≤ 9223372036854775807) := by
              intro e he
              rcases List.mem_append.1 he with he | he
              · exact HM.out e he
              · simp only [List.mem_singleton] at he
                subst he
                unfold evOf
                simp only
                omega
            have hLi : (last : Int) + (n0 : Int) = (L : Int) := by omega
            clear hev hL HX
            have r0 : w5.cell? ⟨h, 0, none⟩ = some (.int .i64 0) := cell_of HHw5.out 0
            have r1 : w5.cell? ⟨h, 1, none⟩ = some (.int .i64 k) := cell_of HHw5.out 1
            have r2 : w5.cell? ⟨h, 2, none⟩ = some (.int .i64 d) := cell_of HHw5.out 2
            have r3 : w5.cell? ⟨h, 3, none⟩ = some (.int .i64 x) := cell_of HHw5.out 3
            have r4 : w5.cell? ⟨h, 4, none⟩ = some (.int .i64 y) := cell_of HHw5.out 4
            have rf0 : w5.frozen? ⟨h, 0, none⟩ = false := free_of HHw5.out 0
            have rf1 : w5.frozen? ⟨h, 1, none⟩ = false := free_of HHw5.out 1
            have rf2 : w5.frozen? ⟨h, 2, none⟩ = false := free_of HHw5.out 2
            have rf3 : w5.frozen? ⟨h, 3, none⟩ = false := free_of HHw5.out 3
            have rf4 : w5.frozen? ⟨h, 4, none⟩ = false := free_of HHw5.out 4
            go_upto_region 32 with (go_at_call 17; refine (HD.out _).mono ?_; rintro e w9 ⟨rfl, rfl⟩)
            obtain ⟨w6, hw6⟩ : ∃ w6, w5.setCell ⟨h, 0, none⟩ (.int .i64 (L : Int)) = w6 := ⟨_, rfl⟩
            have HHw6 : Hid (w6.heap[h]? = some (.cells #[.int .i64 L, .int .i64 k, .int .i64 d, .int .i64 x, .int .i64 y] 36 (0, 0))) := by
              unfold Hid
              rw [← hw6, set_self (w := w5) (b := h) (o := 0) HHw5.out]
              rfl
            have HAw6 : Hid (AAt w6 g (q + 1 + 1 + 1)) := by
              unfold Hid AAt
              rw [← hw6, set_other (by dsimp only; omega)]
              exact HAw5.out
            have HW6 : Hid (wo.grownBy w6 (some g)) := by rw [← hw6]; exact grown_set HGow5.out (.inr (by dsimp only; omega)) _
            clear r0 rf0 r1 rf1 r2 rf2 r3 rf3 r4 rf4
            have r0 : w6.cell? ⟨h, 0, none⟩ = some (.int .i64 L) := cell_of HHw6.out 0
            have r1 : w6.cell? ⟨h, 1, none⟩ = some (.int .i64 k) := cell_of HHw6.out 1
            have r2 : w6.cell? ⟨h, 2, none⟩ = some (.int .i64 d) := cell_of HHw6.out 2
            have r3 : w6.cell? ⟨h, 3, none⟩ = some (.int .i64 x) := cell_of HHw6.out 3
            have r4 : w6.cell? ⟨h, 4, none⟩ = some (.int .i64 y) := cell_of HHw6.out 4
            have rf0 : w6.frozen? ⟨h, 0, none⟩ = false := free_of HHw6.out 0
            have rf1 : w6.frozen? ⟨h, 1, none⟩ = false := free_of HHw6.out 1
            have rf2 : w6.frozen? ⟨h, 2, none⟩ = false := free_of HHw6.out 2
            have rf3 : w6.frozen? ⟨h, 3, none⟩ = false := free_of HHw6.out 3
            have rf4 : w6.frozen? ⟨h, 4, none⟩ = false := free_of HHw6.out 4
            have HO6 := Lib.hid (owns_frame HO.out HW6.out (by omega))
            have HF6 := Lib.hid (grown_row HW6.out HF.out (by omega))
            have HG6 : Hid (w.grownBy w6 none) := grown_from HG.out HW6.out (.inl (by omega))
            have HB6 : Hid (g + 1 ≤ w6.heap.size) := Nat.le_trans HB.out HW6.out.size
            rw [hw6]
            clear hw6
            go_wp2_with (at_builtin; refine wpList_append_own _ rfl _ _ 22 rfl (g + 1) 36 i0 _ 5 40 Try.underlying22 hi hz0 hz1 hz2 rfl (by decide) _ n (evC acc) rfl (HO6.out.alloc _) ⟨w6.heap.size, 0, none⟩ 1 1 [.int .i64 L, .int .i64 k, .int .i64 d, .int .i64 x, .int .i64 (y : Nat)] rfl rfl ?_ ?_ ?_ ?_ ?_ ?_)
            · intro j u hj
              rw [Addr.add_lit, cell_of (heap_alloc_new _ _)]
              simpa using hj
            · intro u hu; simp at hu; rcases hu with rfl | rfl | rfl | rfl | rfl <;> rfl
            · unfold maxLen; omega
            · omega
            · have := HB6.out; simp; omega
            intro v' w7 hown7 hg7 _
            have HO7 : Hid (w7.ownsRow (g + 1) 36 5 v' (acc ++ [evOf last n0 c x y]).length (evC (acc ++ [evOf last n0 c x y]))) := by
              unfold Hid
              rw [evC_snoc, HC.out, List.length_append, HN.out]
              exact hown7
            have HOA := HO6.out.alloc (.cells #[.int .i64 L, .int .i64 k, .int .i64 d, .int .i64 x, .int .i64 (y : Nat)] 36)
            have HA7 : Hid (AAt w7 g (q + 1 + 1 + 1)) := app_row HOA hg7 (row_alloc HAw6.out _) (by omega)
            have HF7 : Hid (w7.heap[f]? = some (.cells #[.int .i64 0, .int .i64 0] 30 (0, 0))) := app_row HOA hg7 (row_alloc HF6.out _) (by omega)
            have HG7 : Hid (w.grownBy w7 none) := app_grown (grown_alloc HG6.out _) (by omega) HOA hg7
            have HB7 : Hid (g + 1 ≤ w7.heap.size) := Nat.le_trans HB6.out (Nat.le_trans (by simp) hg7.size)
            have HNL : Hid ((acc ++ [evOf last n0 c x y]).length = n + 1) := by unfold Hid; rw [List.length_append, HN.out]; rfl
            have cm : w7.cell? ⟨g, 0, none⟩ = some (.int .i64 ((q + 1 + 1 + 1) : Nat)) := cell_of HA7.out 0
            clear hown7 hg7 HOA
            go_wp2_with fail
            go_roundw
            case rel => exact ⟨(q + 1 + 1 + 1), L, c, acc ++ [evOf last n0 c x y], by omega, rfl, rfl, HSK2, by rw [HNL.out]; omega, by rw [HNL.out]; omega, HMM, HX3, HA7, HF7, HO7, HG7, HB7⟩
            case measure =>
              have cr : wo.cell? ⟨g, 0, none⟩ = some (.int .i64 p) := cell_of HA.out 0
              rw [cm, cr]
              simp only [intOf, Int.toNat_natCast]
              omega
          · have hd3 : dn = 1 := by omega
            have HE5 := HE4.out
            rw [if_neg hd2] at HE5
            have HX : Hid (R = U s (q + 1 + 1) (last + n0) (c) (acc ++ [evOf last n0 (c) x 0])) := by unfold Hid; rw [HU.out, HE5]
            subst hd3
            clear hdn3 HE4 HE5 HSKD HU r1 r4 rf4 ga gf
            have hev : R = U s (q + 1 + 1) (last + n0) c (acc ++ [evOf last n0 c x 0]) := HX.out
            obtain ⟨L, hL⟩ : ∃ L, last + n0 = L := ⟨_, rfl⟩
            have hL2 : L ≤ (n + 1) * 268435456 := by omega
            have hL3 : L ≤ 1099780063232 := by omega
            have HC : Hid ((evOf last n0 c x 0).cells = [.int .i64 L, .int .i64 k, .int .i64 d, .int .i64 x, .int .i64 (0 : Nat)]) := by
              unfold Hid evOf Ev.cells
              rw [hL, HK.out, HDD.out]
            rw [hL] at hev
            have HX3 := Lib.hid hev
            have HMM : Hid (∀ e ∈ acc ++ [evOf last n0 c x 0], e.at_ ≤ 9223372036854775807) := by
              intro e he
              rcases List.mem_append.1 he with he | he
              · exact HM.out e he
              · simp only [List.mem_singleton] at he
                subst he
                unfold evOf
                simp only
                omega
            have hLi : (last : Int) + (n0 : Int) = (L : Int) := by omega
            clear hev hL HX
            have r0 : w4.cell? ⟨h, 0, none⟩ = some (.int .i64 0) := cell_of HHw4.out 0
            have r1 : w4.cell? ⟨h, 1, none⟩ = some (.int .i64 k) := cell_of HHw4.out 1
            have r2 : w4.cell? ⟨h, 2, none⟩ = some (.int .i64 d) := cell_of HHw4.out 2
            have r3 : w4.cell? ⟨h, 3, none⟩ = some (.int .i64 x) := cell_of HHw4.out 3
            have r4 : w4.cell? ⟨h, 4, none⟩ = some (.int .i64 0) := cell_of HHw4.out 4
            have rf0 : w4.frozen? ⟨h, 0, none⟩ = false := free_of HHw4.out 0
            have rf1 : w4.frozen? ⟨h, 1, none⟩ = false := free_of HHw4.out 1
            have rf2 : w4.frozen? ⟨h, 2, none⟩ = false := free_of HHw4.out 2
            have rf3 : w4.frozen? ⟨h, 3, none⟩ = false := free_of HHw4.out 3
            have rf4 : w4.frozen? ⟨h, 4, none⟩ = false := free_of HHw4.out 4
            go_upto_region 32 with (go_at_call 17; refine (HD.out _).mono ?_; rintro e w9 ⟨rfl, rfl⟩)
            obtain ⟨w6, hw6⟩ : ∃ w6, w4.setCell ⟨h, 0, none⟩ (.int .i64 (L : Int)) = w6 := ⟨_, rfl⟩
            have HHw6 : Hid (w6.heap[h]? = some (.cells #[.int .i64 L, .int .i64 k, .int .i64 d, .int .i64 x, .int .i64 0] 36 (0, 0))) := by
              unfold Hid
              rw [← hw6, set_self (w := w4) (b := h) (o := 0) HHw4.out]
              rfl
            have HAw6 : Hid (AAt w6 g (q + 1 + 1)) := by
              unfold Hid AAt
              rw [← hw6, set_other (by dsimp only; omega)]
              exact HAw4.out
            have HW6 : Hid (wo.grownBy w6 (some g)) := by rw [← hw6]; exact grown_set HGow4.out (.inr (by dsimp only; omega)) _
            clear r0 rf0 r1 rf1 r2 rf2 r3 rf3 r4 rf4
            have r0 : w6.cell? ⟨h, 0, none⟩ = some (.int .i64 L) := cell_of HHw6.out 0
            have r1 : w6.cell? ⟨h, 1, none⟩ = some (.int .i64 k) := cell_of HHw6.out 1
            have r2 : w6.cell? ⟨h, 2, none⟩ = some (.int .i64 d) := cell_of HHw6.out 2
            have r3 : w6.cell? ⟨h, 3, none⟩ = some (.int .i64 x) := cell_of HHw6.out 3
            have r4 : w6.cell? ⟨h, 4, none⟩ = some (.int .i64 0) := cell_of HHw6.out 4
            have rf0 : w6.frozen? ⟨h, 0, none⟩ = false := free_of HHw6.out 0
            have rf1 : w6.frozen? ⟨h, 1, none⟩ = false := free_of HHw6.out 1
            have rf2 : w6.frozen? ⟨h, 2, none⟩ = false := free_of HHw6.out 2
            have rf3 : w6.frozen? ⟨h, 3, none⟩ = false := free_of HHw6.out 3
            have rf4 : w6.frozen? ⟨h, 4, none⟩ = false := free_of HHw6.out 4
            have HO6 := Lib.hid (owns_frame HO.out HW6.out (by omega))
            have HF6 := Lib.hid (grown_row HW6.out HF.out (by omega))
            have HG6 : Hid (w.grownBy w6 none) := grown_from HG.out HW6.out (.inl (by omega))
            have HB6 : Hid (g + 1 ≤ w6.heap.size) := Nat.le_trans HB.out HW6.out.size
            rw [hw6]
            clear hw6
            go_wp2_with (at_builtin; refine wpList_append_own _ rfl _ _ 22 rfl (g + 1) 36 i0 _ 5 40 Try.underlying22 hi hz0 hz1 hz2 rfl (by decide) _ n (evC acc) rfl (HO6.out.alloc _) ⟨w6.heap.size, 0, none⟩ 1 1 [.int .i64 L, .int .i64 k, .int .i64 d, .int .i64 x, .int .i64 (0 : Nat)] rfl rfl ?_ ?_ ?_ ?_ ?_ ?_)
            · intro j u hj
              rw [Addr.add_lit, cell_of (heap_alloc_new _ _)]
              simpa using hj
            · intro u hu; simp at hu; rcases hu with rfl | rfl | rfl | rfl | rfl <;> rfl
            · unfold maxLen; omega
            · omega
            · have := HB6.out; simp; omega
            intro v' w7 hown7 hg7 _
            have HO7 : Hid (w7.ownsRow (g + 1) 36 5 v' (acc ++ [evOf last n0 c x 0]).length (evC (acc ++ [evOf last n0 c x 0]))) := by
              unfold Hid
              rw [evC_snoc, HC.out, List.length_append, HN.out]
              exact hown7
            have HOA := HO6.out.alloc (.cells #[.int .i64 L, .int .i64 k, .int .i64 d, .int .i64 x, .int .i64 (0 : Nat)] 36)
            have HA7 : Hid (AAt w7 g (q + 1 + 1)) := app_row HOA hg7 (row_alloc HAw6.out _) (by omega)
            have HF7 : Hid (w7.heap[f]? = some (.cells #[.int .i64 0, .int .i64 0] 30 (0, 0))) := app_row HOA hg7 (row_alloc HF6.out _) (by omega)
            have HG7 : Hid (w.grownBy w7 none) := app_grown (grown_alloc HG6.out _) (by omega) HOA hg7
            have HB7 : Hid (g + 1 ≤ w7.heap.size) := Nat.le_trans HB6.out (Nat.le_trans (by simp) hg7.size)
            have HNL : Hid ((acc ++ [evOf last n0 c x 0]).length = n + 1) := by unfold Hid; rw [List.length_append, HN.out]; rfl
            have cm : w7.cell? ⟨g, 0, none⟩ = some (.int .i64 ((q + 1 + 1) : Nat)) := cell_of HA7.out 0
            clear hown7 hg7 HOA
            go_wp2_with fail
            go_roundw
            case rel => exact ⟨(q + 1 + 1), L, c, acc ++ [evOf last n0 c x 0], by omega, rfl, rfl, HSK2, by rw [HNL.out]; omega, by rw [HNL.out]; omega, HMM, HX3, HA7, HF7, HO7, HG7, HB7⟩
            case measure =>
              have cr : wo.cell? ⟨g, 0, none⟩ = some (.int .i64 p) := cell_of HA.out 0
              rw [cm, cr]
              simp only [intOf, Int.toNat_natCast]
              omega
        · simp only [hb, decide_false]
          have HE : Hid (statP (bl s) st q = (q, some st)) := by
            unfold Hid statP
            rcases Nat.lt_or_ge q s.size with h1 | h1
            · have g1 := bl_get h1
              have g2 : (bl s).getD q 0 = s[q].toNat := by rw [List.getD_eq_getElem?_getD, g1]; rfl
              rw [g2] at hb
              rw [g1]
              simp only
              rw [if_neg (fun h => hb ⟨h1, h⟩)]
            · rw [bl_none h1]
          clear hb
          go_upto_region 20 with fail
          clear ga gf
          obtain ⟨d, hd16⟩ : ∃ d, st % 16 = d := ⟨_, rfl⟩
          obtain ⟨k, hk16⟩ : ∃ k, st / 16 = k := ⟨_, rfl⟩
          have HK := Lib.hid hk16
          have HDD := Lib.hid hd16
          have hmod : (st : Int) % 16 = (d : Int) := by rw [← hd16]; rfl
          have hdiv : (st : Int) / 16 = (k : Int) := by rw [← hk16]; rfl
          have hk17 : k < 16 := by omega
          have hd17 : d < 16 := by omega
          have hdk := rdata_calls (k : Int)
          obtain ⟨dn, hdn⟩ : ∃ dn, dataN (k : Int) = dn := ⟨_, rfl⟩
          have hdn3 : dn = 0 ∨ dn = 1 ∨ dn = 2 := by
            rw [← hdn]
            unfold dataN
            split
            · omega
            · split <;> omega
          have HSKD : Hid (dn ≠ 0 → stOk st) := by
            intro h0
            rw [← hdn, ← hk16] at h0
            rcases HSK.out with h | h
            · first
                | (exact .inr ⟨by omega, by omega, h0⟩)
                | (exfalso; subst h; exact h0 data0)
            · exact .inr ⟨by omega, by omega, h0⟩
          rw [hdn] at hdk
          have HD := Lib.hid hdk
          have HE2 : Hid (eventP (bl s) st q = if dn = 0 then (q, st, none) else match lowP (bl s) (q) with
                | (q1, none) => (q1, st, none)
                | (q1, some x) => if dn = 2 then (match lowP (bl s) q1 with
                    | (q2, none) => (q2, st, none)
                    | (q2, some y) => (q2, st, some (x, y))) else (q1, st, some (x, 0))) := by
            unfold Hid
            unfold eventP
            rw [HE.out]
            simp only
            rw [hk16, hdn]
            rfl
          clear hdk hdn hk16 hd16 HE
          have hq1 : q ≤ s.size := by omega
          have ga : wc.cell? ⟨g, 0, none⟩ = some (.int .i64 (q : Nat)) := cell_of HAwc.out 0
          have gf : wc.frozen? ⟨g, 0, none⟩ = false := free_of HAwc.out 0
          go_upto_region 21 with fail
          clear hmod hdiv
          obtain ⟨h, hh⟩ : ∃ h, wc.heap.size = h := ⟨_, rfl⟩
          obtain ⟨w3, hw3⟩ : ∃ w3, wc.alloc (.cells #[.int .i64 0, .int .i64 k, .int .i64 d, .int .i64 0, .int .i64 0] 36) = w3 := ⟨_, rfl⟩
          have HHw3 : Hid (w3.heap[h]? = some (.cells #[.int .i64 0, .int .i64 k, .int .i64 d, .int .i64 0, .int .i64 0] 36 (0, 0))) := by rw [← hw3, ← hh]; exact heap_alloc_new _ _
          have HAw3 : Hid (AAt w3 g (q)) := by rw [← hw3]; exact row_alloc HAwc.out _
          have HFw3 : Hid (w3.heap[f]? = some (.cells #[.int .i64 0, .int .i64 0] 30 (0, 0))) := by rw [← hw3]; exact row_alloc HFwc.out _
          have HGow3 : Hid (wo.grownBy w3 (some g)) := by rw [← hw3]; exact grown_alloc HGowc.out _
          have HGww3 : Hid (w.grownBy w3 none) := by rw [← hw3]; exact grown_alloc HGwwc.out _
          have hhw : wo.heap.size ≤ h := by rw [← hh]; exact HGowc.out.size
          have hgh : g < h := by rw [← hh]; exact lt_of HAwc.out
          simp only [hh, hw3]
          clear hh hw3 ga gf
          have ga : w3.cell? ⟨g, 0, none⟩ = some (.int .i64 (q : Nat)) := cell_of HAw3.out 0
          have gf : w3.frozen? ⟨g, 0, none⟩ = false := free_of HAw3.out 0
          have r0 : w3.cell? ⟨h, 0, none⟩ = some (.int .i64 0) := cell_of HHw3.out 0
          have r1 : w3.cell? ⟨h, 1, none⟩ = some (.int .i64 k) := cell_of HHw3.out 1
          have r2 : w3.cell? ⟨h, 2, none⟩ = some (.int .i64 d) := cell_of HHw3.out 2
          have r3 : w3.cell? ⟨h, 3, none⟩ = some (.int .i64 0) := cell_of HHw3.out 3
          have r4 : w3.cell? ⟨h, 4, none⟩ = some (.int .i64 0) := cell_of HHw3.out 4
          have rf0 : w3.frozen? ⟨h, 0, none⟩ = false := free_of HHw3.out 0
          have rf1 : w3.frozen? ⟨h, 1, none⟩ = false := free_of HHw3.out 1
          have rf2 : w3.frozen? ⟨h, 2, none⟩ = false := free_of HHw3.out 2
          have rf3 : w3.frozen? ⟨h, 3, none⟩ = false := free_of HHw3.out 3
          have rf4 : w3.frozen? ⟨h, 4, none⟩ = false := free_of HHw3.out 4
          by_cases hd0 : dn = 0
          · have HX : Hid (R = .error (2, q)) := by unfold Hid; rw [HU.out, HE2.out, if_pos hd0]
            subst hd0
            clear HE2 hdn3 HSKD HU
            have B1 := Lib.hid (bad_calls g (q) w3 HAw3.out)
            go_wp2_with (first
              | (go_at_call 17; refine (HD.out _).mono ?_; rintro e w9 ⟨rfl, rfl⟩)
              | (go_at_call 21; refine (B1.out).mono ?_; rintro e wb ⟨rfl, hgb⟩; have HGb := Lib.hid hgb.out; clear hgb; have HFb := Lib.hid (grown_row0 HGb.out HFw3.out); have b0 : wb.cell? ⟨f, 0, none⟩ = some (.int .i64 0) := cell_of HFb.out 0; have b1 : wb.cell? ⟨f, 1, none⟩ = some (.int .i64 0) := cell_of HFb.out 1; have bf0 : wb.frozen? ⟨f, 0, none⟩ = false := free_of HFb.out 0; have bf1 : wb.frozen? ⟨f, 1, none⟩ = false := free_of HFb.out 1))
            refine bodyPost_ret (v := .tuple #[.slice none 0 0, .agg #[.int .i64 2, .int .i64 (q : Nat)]]) (by simp [results, Try.results12, go_sem, b0, b1]) rfl ?_
            exact un_bad HX.out (grown_trans HGww3.out HGb.out) hwf (grown_set (p := ⟨f, 1, none⟩) (grown_set (p := ⟨f, 0, none⟩) (grown_refl _ _) (.inl rfl) _) (.inl rfl) _)
          have HSK2 := Lib.hid (HSKD.out hd0)
          have hd0' : (dn == 0) = false := by simpa using hd0
          by_cases hps1 : q = s.size
          · have hl : lowP (bl s) (q) = (q, none) := by unfold lowP; rw [bl_none (by omega)]
            have HX : Hid (R = .error (2, q)) := by unfold Hid; rw [HU.out, HE2.out, if_neg hd0, hl]
            have hpc : (((q : Nat) : Int) == (s.size : Int)) = true := by rw [beq_iff_eq, hps1]
            have hpd : ((q : Int) == (s.size : Int)) = true := by rw [beq_iff_eq]; omega
            clear HE2 hdn3 HSKD HU hl hps1
            have B1 := Lib.hid (bad_calls g (q) w3 HAw3.out)
            go_wp2_with (first
              | (go_at_call 17; refine (HD.out _).mono ?_; rintro e w9 ⟨rfl, rfl⟩)
              | (go_at_call 21; refine (B1.out).mono ?_; rintro e wb ⟨rfl, hgb⟩; have HGb := Lib.hid hgb.out; clear hgb; have HFb := Lib.hid (grown_row0 HGb.out HFw3.out); have b0 : wb.cell? ⟨f, 0, none⟩ = some (.int .i64 0) := cell_of HFb.out 0; have b1 : wb.cell? ⟨f, 1, none⟩ = some (.int .i64 0) := cell_of HFb.out 1; have bf0 : wb.frozen? ⟨f, 0, none⟩ = false := free_of HFb.out 0; have bf1 : wb.frozen? ⟨f, 1, none⟩ = false := free_of HFb.out 1))
            refine bodyPost_ret (v := .tuple #[.slice none 0 0, .agg #[.int .i64 2, .int .i64 (q : Nat)]]) (by simp [results, Try.results12, go_sem, b0, b1]) rfl ?_
            exact un_bad HX.out (grown_trans HGww3.out HGb.out) hwf (grown_set (p := ⟨f, 1, none⟩) (grown_set (p := ⟨f, 0, none⟩) (grown_refl _ _) (.inl rfl) _) (.inl rfl) _)
          have hlt1 : q < s.size := by omega
          have hne1 : (((q : Nat) : Int) == (s.size : Int)) = false := by rw [beq_eq_false_iff_ne]; omega
          have hnf1 : ((q : Int) == (s.size : Int)) = false := by rw [beq_eq_false_iff_ne]; omega
          have g1 := bl_get hlt1
          obtain ⟨x, hx⟩ : ∃ x, s[q].toNat = x := ⟨_, rfl⟩
          have hx8 : x < 256 := by rw [← hx]; exact s[q].toNat_lt
          rw [hx] at g1
          by_cases hx127 : 127 < x
          · have hl : lowP (bl s) (q) = (q, none) := by unfold lowP; rw [g1]; simp only; rw [if_pos hx127]
            have HX : Hid (R = .error (2, q)) := by unfold Hid; rw [HU.out, HE2.out, if_neg hd0, hl]
            have hxb : decide ((128 : Int) ≤ (x : Int)) = true := by simp; omega
            clear HE2 hdn3 HSKD HU hl g1
            have B1 := Lib.hid (bad_calls g (q) w3 HAw3.out)
            go_wp2_with (first
              | (go_at_call 17; refine (HD.out _).mono ?_; rintro e w9 ⟨rfl, rfl⟩)
              | (go_at_call 21; refine (B1.out).mono ?_; rintro e wb ⟨rfl, hgb⟩; have HGb := Lib.hid hgb.out; clear hgb; have HFb := Lib.hid (grown_row0 HGb.out HFw3.out); have b0 : wb.cell? ⟨f, 0, none⟩ = some (.int .i64 0) := cell_of HFb.out 0; have b1 : wb.cell? ⟨f, 1, none⟩ = some (.int .i64 0) := cell_of HFb.out 1; have bf0 : wb.frozen? ⟨f, 0, none⟩ = false := free_of HFb.out 0; have bf1 : wb.frozen? ⟨f, 1, none⟩ = false := free_of HFb.out 1))
            refine bodyPost_ret (v := .tuple #[.slice none 0 0, .agg #[.int .i64 2, .int .i64 (q : Nat)]]) (by simp [results, Try.results12, go_sem, b0, b1]) rfl ?_
            exact un_bad HX.out (grown_trans HGww3.out HGb.out) hwf (grown_set (p := ⟨f, 1, none⟩) (grown_set (p := ⟨f, 0, none⟩) (grown_refl _ _) (.inl rfl) _) (.inl rfl) _)
          have hl : lowP (bl s) (q) = (q + 1, some x) := by unfold lowP; rw [g1]; simp only; rw [if_neg hx127]
          have hxb : decide ((128 : Int) ≤ (x : Int)) = false := by simp; omega
          have HE3 := HE2.out
          rw [if_neg hd0, hl] at HE3
          have HE4 := Lib.hid HE3
          clear HE2 HE3 hl g1
          go_upto_region 25 with (go_at_call 17; refine (HD.out _).mono ?_; rintro e w9 ⟨rfl, rfl⟩)
          obtain ⟨w4, hw4⟩ : ∃ w4, (w3.setCell ⟨h, 3, none⟩ (.int .i64 (x : Int))).setCell ⟨g, 0, none⟩ (.int .i64 ((q : Int) + 1)) = w4 := ⟨_, rfl⟩
          have HHw4 : Hid (w4.heap[h]? = some (.cells #[.int .i64 0, .int .i64 k, .int .i64 d, .int .i64 x, .int .i64 0] 36 (0, 0))) := by
            unfold Hid
            rw [← hw4, set_other (by dsimp only; omega), set_self (w := w3) (b := h) (o := 3) HHw3.out]
            rfl
          have HAw4 : Hid (AAt w4 g (q + 1)) := by
            rw [← hw4]
            refine aat_set (w := w3.setCell ⟨h, 3, none⟩ (.int .i64 (x : Int))) (p := q) ?_ (q + 1)
            unfold AAt
            rw [set_other (by dsimp only; omega)]
            exact HAw3.out
          have HGow4 : Hid (wo.grownBy w4 (some g)) := by rw [← hw4]; exact grown_set (p := ⟨g, 0, none⟩) (grown_set (p := ⟨h, 3, none⟩) HGow3.out (.inr hhw) _) (.inl rfl) _
          have HFw4 := Lib.hid (grown_row HGow4.out HF.out (by omega))
          have HGww4 : Hid (w.grownBy w4 none) := grown_from HG.out HGow4.out (.inl (by omega))
          rw [hw4]
          clear hw4 ga gf HHw3 HAw3 HFw3 HGow3 HGww3
          clear r0 rf0 r1 rf1 r2 rf2 r3 rf3 r4 rf4
          have ga : w4.cell? ⟨g, 0, none⟩ = some (.int .i64 (q + 1 : Nat)) := cell_of HAw4.out 0
          have gf : w4.frozen? ⟨g, 0, none⟩ = false := free_of HAw4.out 0
          have r1 : w4.cell? ⟨h, 1, none⟩ = some (.int .i64 k) := cell_of HHw4.out 1
          have r4 : w4.cell? ⟨h, 4, none⟩ = some (.int .i64 0) := cell_of HHw4.out 4
          have rf4 : w4.frozen? ⟨h, 4, none⟩ = false := free_of HHw4.out 4
          by_cases hd2 : dn = 2
          · subst hd2
            clear hdn3
            have HE5 := HE4.out
            rw [if_pos rfl] at HE5
            have HE6 := Lib.hid HE5
            clear HE4 HE5
            by_cases hps2 : q + 1 = s.size
            · have hl : lowP (bl s) (q + 1) = (q + 1, none) := by unfold lowP; rw [bl_none (by omega)]
              have HX : Hid (R = .error (2, q + 1)) := by unfold Hid; rw [HU.out, HE6.out, hl]
              have hpc2 : (((q + 1 : Nat) : Int) == (s.size : Int)) = true := by rw [beq_iff_eq, hps2]
              have hpd2 : ((q + 1 : Int) == (s.size : Int)) = true := by rw [beq_iff_eq]; omega
              clear HE6 HSKD HU hl hps2
              have B1 := Lib.hid (bad_calls g ((q + 1)) w4 HAw4.out)
              go_wp2_with (first
                | (go_at_call 17; refine (HD.out _).mono ?_; rintro e w9 ⟨rfl, rfl⟩)
                | (go_at_call 21; refine (B1.out).mono ?_; rintro e wb ⟨rfl, hgb⟩; have HGb := Lib.hid hgb.out; clear hgb; have HFb := Lib.hid (grown_row0 HGb.out HFw4.out); have b0 : wb.cell? ⟨f, 0, none⟩ = some (.int .i64 0) := cell_of HFb.out 0; have b1 : wb.cell? ⟨f, 1, none⟩ = some (.int .i64 0) := cell_of HFb.out 1; have bf0 : wb.frozen? ⟨f, 0, none⟩ = false := free_of HFb.out 0; have bf1 : wb.frozen? ⟨f, 1, none⟩ = false := free_of HFb.out 1))
              refine bodyPost_ret (v := .tuple #[.slice none 0 0, .agg #[.int .i64 2, .int .i64 ((q + 1) : Nat)]]) (by simp [results, Try.results12, go_sem, b0, b1]) rfl ?_
              exact un_bad HX.out (grown_trans HGww4.out HGb.out) hwf (grown_set (p := ⟨f, 1, none⟩) (grown_set (p := ⟨f, 0, none⟩) (grown_refl _ _) (.inl rfl) _) (.inl rfl) _)
            have hlt2 : q + 1 < s.size := by omega
            have hne2 : (((q + 1 : Nat) : Int) == (s.size : Int)) = false := by rw [beq_eq_false_iff_ne]; omega
            have hnf2 : ((q + 1 : Int) == (s.size : Int)) = false := by rw [beq_eq_false_iff_ne]; omega
            have g1 := bl_get hlt2
            obtain ⟨y, hy⟩ : ∃ y, s[q + 1].toNat = y := ⟨_, rfl⟩
            have hy8 : y < 256 := by rw [← hy]; exact s[q + 1].toNat_lt
            rw [hy] at g1
            by_cases hy127 : 127 < y
            · have hl : lowP (bl s) (q + 1) = (q + 1, none) := by unfold lowP; rw [g1]; simp only; rw [if_pos hy127]
              have HX : Hid (R = .error (2, q + 1)) := by unfold Hid; rw [HU.out, HE6.out, hl]
              have hyb : decide ((128 : Int) ≤ (y : Int)) = true := by simp; omega
              clear HE6 HSKD HU hl g1
              have B1 := Lib.hid (bad_calls g ((q + 1)) w4 HAw4.out)
              go_wp2_with (first
                | (go_at_call 17; refine (HD.out _).mono ?_; rintro e w9 ⟨rfl, rfl⟩)
                | (go_at_call 21; refine (B1.out).mono ?_; rintro e wb ⟨rfl, hgb⟩; have HGb := Lib.hid hgb.out; clear hgb; have HFb := Lib.hid (grown_row0 HGb.out HFw4.out); have b0 : wb.cell? ⟨f, 0, none⟩ = some (.int .i64 0) := cell_of HFb.out 0; have b1 : wb.cell? ⟨f, 1, none⟩ = some (.int .i64 0) := cell_of HFb.out 1; have bf0 : wb.frozen? ⟨f, 0, none⟩ = false := free_of HFb.out 0; have bf1 : wb.frozen? ⟨f, 1, none⟩ = false := free_of HFb.out 1))
              refine bodyPost_ret (v := .tuple #[.slice none 0 0, .agg #[.int .i64 2, .int .i64 ((q + 1) : Nat)]]) (by simp [results, Try.results12, go_sem, b0, b1]) rfl ?_
              exact un_bad HX.out (grown_trans HGww4.out HGb.out) hwf (grown_set (p := ⟨f, 1, none⟩) (grown_set (p := ⟨f, 0, none⟩) (grown_refl _ _) (.inl rfl) _) (.inl rfl) _)
            have hl : lowP (bl s) (q + 1) = (q + 1 + 1, some y) := by unfold lowP; rw [g1]; simp only; rw [if_neg hy127]
            have HX : Hid (R = U s (q + 1 + 1) (last + n0) (st) (acc ++ [evOf last n0 (st) x y])) := by unfold Hid; rw [HU.out, HE6.out, hl]
            have hyb : decide ((128 : Int) ≤ (y : Int)) = false := by simp; omega
            clear HE6 HSKD HU hl g1
            go_upto_region 30 with (go_at_call 17; refine (HD.out _).mono ?_; rintro e w9 ⟨rfl, rfl⟩)
            obtain ⟨w5, hw5⟩ : ∃ w5, (w4.setCell ⟨h, 4, none⟩ (.int .i64 (y : Int))).setCell ⟨g, 0, none⟩ (.int .i64 ((q : Int) + 1 + 1)) = w5 := ⟨_, rfl⟩
            have HHw5 : Hid (w5.heap[h]? = some (.cells #[.int .i64 0, .int .i64 k, .int .i64 d, .int .i64 x, .int .i64 y] 36 (0, 0))) := by
              unfold Hid
              rw [← hw5, set_other (by dsimp only; omega), set_self (w := w4) (b := h) (o := 4) HHw4.out]
              rfl
            have HAw5 : Hid (AAt w5 g (q + 1 + 1)) := by
              rw [← hw5]
              refine aat_set (w := w4.setCell ⟨h, 4, none⟩ (.int .i64 (y : Int))) (p := q + 1) ?_ (q + 1 + 1)
              unfold AAt
              rw [set_other (by dsimp only; omega)]
              exact HAw4.out
            have HGow5 : Hid (wo.grownBy w5 (some g)) := by rw [← hw5]; exact grown_set (p := ⟨g, 0, none⟩) (grown_set (p := ⟨h, 4, none⟩) HGow4.out (.inr hhw) _) (.inl rfl) _
            rw [hw5]
            clear hw5 ga gf r1 r4 rf4
            have hev : R = U s (q + 1 + 1) (last + n0) st (acc ++ [evOf last n0 st x y]) := HX.out
            obtain ⟨L, hL⟩ : ∃ L, last + n0 = L := ⟨_, rfl⟩
            have hL2 : L ≤ (n + 1) * 268435456 := by omega
            have hL3 : L ≤ 1099780063232 := by omega
            have HC : Hid ((evOf last n0 st x y).cells = [.int .i64 L, .int .i64 k, .int .i64 d, .int .i64 x, .int .i64 (y : Nat)]) := by
              unfold Hid evOf Ev.cells
              rw [hL, HK.out, HDD.out]
            rw [hL] at hev
            have HX3 := Lib.hid hev
            have HMM : Hid (∀ e ∈ acc ++ [evOf last n0 st x y], e.at_ ≤ 9223372036854775807) := by
              intro e he
              rcases List.mem_append.1 he with he | he
              · exact HM.out e he
              · simp only [List.mem_singleton] at he
                subst he
                unfold evOf
                simp only
                omega
            have hLi : (last : Int) + (n0 : Int) = (L : Int) := by omega
            clear hev hL HX
            have r0 : w5.cell? ⟨h, 0, none⟩ = some (.int .i64 0) := cell_of HHw5.out 0
            have r1 : w5.cell? ⟨h, 1, none⟩ = some (.int .i64 k) := cell_of HHw5.out 1
            have r2 : w5.cell? ⟨h, 2, none⟩ = some (.int .i64 d) := cell_of HHw5.out 2
            have r3 : w5.cell? ⟨h, 3, none⟩ = some (.int .i64 x) := cell_of HHw5.out 3
            have r4 : w5.cell? ⟨h, 4, none⟩ = some (.int .i64 y) := cell_of HHw5.out 4
            have rf0 : w5.frozen? ⟨h, 0, none⟩ = false := free_of HHw5.out 0
            have rf1 : w5.frozen? ⟨h, 1, none⟩ = false := free_of HHw5.out 1
            have rf2 : w5.frozen? ⟨h, 2, none⟩ = false := free_of HHw5.out 2
            have rf3 : w5.frozen? ⟨h, 3, none⟩ = false := free_of HHw5.out 3
            have rf4 : w5.frozen? ⟨h, 4, none⟩ = false := free_of HHw5.out 4
            go_upto_region 32 with (go_at_call 17; refine (HD.out _).mono ?_; rintro e w9 ⟨rfl, rfl⟩)
            obtain ⟨w6, hw6⟩ : ∃ w6, w5.setCell ⟨h, 0, none⟩ (.int .i64 (L : Int)) = w6 := ⟨_, rfl⟩
            have HHw6 : Hid (w6.heap[h]? = some (.cells #[.int .i64 L, .int .i64 k, .int .i64 d, .int .i64 x, .int .i64 y] 36 (0, 0))) := by
              unfold Hid
              rw [← hw6, set_self (w := w5) (b := h) (o := 0) HHw5.out]
              rfl
            have HAw6 : Hid (AAt w6 g (q + 1 + 1)) := by
              unfold Hid AAt
              rw [← hw6, set_other (by dsimp only; omega)]
              exact HAw5.out
            have HW6 : Hid (wo.grownBy w6 (some g)) := by rw [← hw6]; exact grown_set HGow5.out (.inr (by dsimp only; omega)) _
            clear r0 rf0 r1 rf1 r2 rf2 r3 rf3 r4 rf4
            have r0 : w6.cell? ⟨h, 0, none⟩ = some (.int .i64 L) := cell_of HHw6.out 0
            have r1 : w6.cell? ⟨h, 1, none⟩ = some (.int .i64 k) := cell_of HHw6.out 1
            have r2 : w6.cell? ⟨h, 2, none⟩ = some (.int .i64 d) := cell_of HHw6.out 2
            have r3 : w6.cell? ⟨h, 3, none⟩ = some (.int .i64 x) := cell_of HHw6.out 3
            have r4 : w6.cell? ⟨h, 4, none⟩ = some (.int .i64 y) := cell_of HHw6.out 4
            have rf0 : w6.frozen? ⟨h, 0, none⟩ = false := free_of HHw6.out 0
            have rf1 : w6.frozen? ⟨h, 1, none⟩ = false := free_of HHw6.out 1
            have rf2 : w6.frozen? ⟨h, 2, none⟩ = false := free_of HHw6.out 2
            have rf3 : w6.frozen? ⟨h, 3, none⟩ = false := free_of HHw6.out 3
            have rf4 : w6.frozen? ⟨h, 4, none⟩ = false := free_of HHw6.out 4
            have HO6 := Lib.hid (owns_frame HO.out HW6.out (by omega))
            have HF6 := Lib.hid (grown_row HW6.out HF.out (by omega))
            have HG6 : Hid (w.grownBy w6 none) := grown_from HG.out HW6.out (.inl (by omega))
            have HB6 : Hid (g + 1 ≤ w6.heap.size) := Nat.le_trans HB.out HW6.out.size
            rw [hw6]
            clear hw6
            go_wp2_with (at_builtin; refine wpList_append_own _ rfl _ _ 22 rfl (g + 1) 36 i0 _ 5 40 Try.underlying22 hi hz0 hz1 hz2 rfl (by decide) _ n (evC acc) rfl (HO6.out.alloc _) ⟨w6.heap.size, 0, none⟩ 1 1 [.int .i64 L, .int .i64 k, .int .i64 d, .int .i64 x, .int .i64 (y : Nat)] rfl rfl ?_ ?_ ?_ ?_ ?_ ?_)
            · intro j u hj
              rw [Addr.add_lit, cell_of (heap_alloc_new _ _)]
              simpa using hj
            · intro u hu; simp at hu; rcases hu with rfl | rfl | rfl | rfl | rfl <;> rfl
            · unfold maxLen; omega
            · omega
            · have := HB6.out; simp; omega
            intro v' w7 hown7 hg7 _
            have HO7 : Hid (w7.ownsRow (g + 1) 36 5 v' (acc ++ [evOf last n0 st x y]).length (evC (acc ++ [evOf last n0 st x y]))) := by
              unfold Hid
              rw [evC_snoc, HC.out, List.length_append, HN.out]
              exact hown7
            have HOA := HO6.out.alloc (.cells #[.int .i64 L, .int .i64 k, .int .i64 d, .int .i64 x, .int .i64 (y : Nat)] 36)
            have HA7 : Hid (AAt w7 g (q + 1 + 1)) := app_row HOA hg7 (row_alloc HAw6.out _) (by omega)
            have HF7 : Hid (w7.heap[f]? = some (.cells #[.int .i64 0, .int .i64 0] 30 (0, 0))) := app_row HOA hg7 (row_alloc HF6.out _) (by omega)
            have HG7 : Hid (w.grownBy w7 none) := app_grown (grown_alloc HG6.out _) (by omega) HOA hg7
            have HB7 : Hid (g + 1 ≤ w7.heap.size) := Nat.le_trans HB6.out (Nat.le_trans (by simp) hg7.size)
            have HNL : Hid ((acc ++ [evOf last n0 st x y]).length = n + 1) := by unfold Hid; rw [List.length_append, HN.out]; rfl
            have cm : w7.cell? ⟨g, 0, none⟩ = some (.int .i64 ((q + 1 + 1) : Nat)) := cell_of HA7.out 0
            clear hown7 hg7 HOA
            go_wp2_with fail
            go_roundw
            case rel => exact ⟨(q + 1 + 1), L, st, acc ++ [evOf last n0 st x y], by omega, rfl, rfl, HSK2, by rw [HNL.out]; omega, by rw [HNL.out]; omega, HMM, HX3, HA7, HF7, HO7, HG7, HB7⟩
            case measure =>
              have cr : wo.cell? ⟨g, 0, none⟩ = some (.int .i64 p) := cell_of HA.out 0
              rw [cm, cr]
              simp only [intOf, Int.toNat_natCast]
              omega
          · have hd3 : dn = 1 := by omega
            have HE5 := HE4.out
            rw [if_neg hd2] at HE5
            have HX : Hid (R = U s (q + 1) (last + n0) (st) (acc ++ [evOf last n0 (st) x 0])) := by unfold Hid; rw [HU.out, HE5]
            subst hd3
            clear hdn3 HE4 HE5 HSKD HU r1 r4 rf4 ga gf
            have hev : R = U s (q + 1) (last + n0) st (acc ++ [evOf last n0 st x 0]) := HX.out
            obtain ⟨L, hL⟩ : ∃ L, last + n0 = L := ⟨_, rfl⟩
            have hL2 : L ≤ (n + 1) * 268435456 := by omega
            have hL3 : L ≤ 1099780063232 := by omega
            have HC : Hid ((evOf last n0 st x 0).cells = [.int .i64 L, .int .i64 k, .int .i64 d, .int .i64 x, .int .i64 (0 : Nat)]) := by
              unfold Hid evOf Ev.cells
              rw [hL, HK.out, HDD.out]
            rw [hL] at hev
            have HX3 := Lib.hid hev
            have HMM : Hid (∀ e ∈ acc ++ [evOf last n0 st x 0], e.at_ ≤ 9223372036854775807) := by
              intro e he
              rcases List.mem_append.1 he with he | he
              · exact HM.out e he
              · simp only [List.mem_singleton] at he
                subst he
                unfold evOf
                simp only
                omega
            have hLi : (last : Int) + (n0 : Int) = (L : Int) := by omega
            clear hev hL HX
            have r0 : w4.cell? ⟨h, 0, none⟩ = some (.int .i64 0) := cell_of HHw4.out 0
            have r1 : w4.cell? ⟨h, 1, none⟩ = some (.int .i64 k) := cell_of HHw4.out 1
            have r2 : w4.cell? ⟨h, 2, none⟩ = some (.int .i64 d) := cell_of HHw4.out 2
            have r3 : w4.cell? ⟨h, 3, none⟩ = some (.int .i64 x) := cell_of HHw4.out 3
            have r4 : w4.cell? ⟨h, 4, none⟩ = some (.int .i64 0) := cell_of HHw4.out 4
            have rf0 : w4.frozen? ⟨h, 0, none⟩ = false := free_of HHw4.out 0
            have rf1 : w4.frozen? ⟨h, 1, none⟩ = false := free_of HHw4.out 1
            have rf2 : w4.frozen? ⟨h, 2, none⟩ = false := free_of HHw4.out 2
            have rf3 : w4.frozen? ⟨h, 3, none⟩ = false := free_of HHw4.out 3
            have rf4 : w4.frozen? ⟨h, 4, none⟩ = false := free_of HHw4.out 4
            go_upto_region 32 with (go_at_call 17; refine (HD.out _).mono ?_; rintro e w9 ⟨rfl, rfl⟩)
            obtain ⟨w6, hw6⟩ : ∃ w6, w4.setCell ⟨h, 0, none⟩ (.int .i64 (L : Int)) = w6 := ⟨_, rfl⟩
            have HHw6 : Hid (w6.heap[h]? = some (.cells #[.int .i64 L, .int .i64 k, .int .i64 d, .int .i64 x, .int .i64 0] 36 (0, 0))) := by
              unfold Hid
              rw [← hw6, set_self (w := w4) (b := h) (o := 0) HHw4.out]
              rfl
            have HAw6 : Hid (AAt w6 g (q + 1)) := by
              unfold Hid AAt
              rw [← hw6, set_other (by dsimp only; omega)]
              exact HAw4.out
            have HW6 : Hid (wo.grownBy w6 (some g)) := by rw [← hw6]; exact grown_set HGow4.out (.inr (by dsimp only; omega)) _
            clear r0 rf0 r1 rf1 r2 rf2 r3 rf3 r4 rf4
            have r0 : w6.cell? ⟨h, 0, none⟩ = some (.int .i64 L) := cell_of HHw6.out 0
            have r1 : w6.cell? ⟨h, 1, none⟩ = some (.int .i64 k) := cell_of HHw6.out 1
            have r2 : w6.cell? ⟨h, 2, none⟩ = some (.int .i64 d) := cell_of HHw6.out 2
            have r3 : w6.cell? ⟨h, 3, none⟩ = some (.int .i64 x) := cell_of HHw6.out 3
            have r4 : w6.cell? ⟨h, 4, none⟩ = some (.int .i64 0) := cell_of HHw6.out 4
            have rf0 : w6.frozen? ⟨h, 0, none⟩ = false := free_of HHw6.out 0
            have rf1 : w6.frozen? ⟨h, 1, none⟩ = false := free_of HHw6.out 1
            have rf2 : w6.frozen? ⟨h, 2, none⟩ = false := free_of HHw6.out 2
            have rf3 : w6.frozen? ⟨h, 3, none⟩ = false := free_of HHw6.out 3
            have rf4 : w6.frozen? ⟨h, 4, none⟩ = false := free_of HHw6.out 4
            have HO6 := Lib.hid (owns_frame HO.out HW6.out (by omega))
            have HF6 := Lib.hid (grown_row HW6.out HF.out (by omega))
            have HG6 : Hid (w.grownBy w6 none) := grown_from HG.out HW6.out (.inl (by omega))
            have HB6 : Hid (g + 1 ≤ w6.heap.size) := Nat.le_trans HB.out HW6.out.size
            rw [hw6]
            clear hw6
            go_wp2_with (at_builtin; refine wpList_append_own _ rfl _ _ 22 rfl (g + 1) 36 i0 _ 5 40 Try.underlying22 hi hz0 hz1 hz2 rfl (by decide) _ n (evC acc) rfl (HO6.out.alloc _) ⟨w6.heap.size, 0, none⟩ 1 1 [.int .i64 L, .int .i64 k, .int .i64 d, .int .i64 x, .int .i64 (0 : Nat)] rfl rfl ?_ ?_ ?_ ?_ ?_ ?_)
            · intro j u hj
              rw [Addr.add_lit, cell_of (heap_alloc_new _ _)]
              simpa using hj
            · intro u hu; simp at hu; rcases hu with rfl | rfl | rfl | rfl | rfl <;> rfl
            · unfold maxLen; omega
            · omega
            · have := HB6.out; simp; omega
            intro v' w7 hown7 hg7 _
            have HO7 : Hid (w7.ownsRow (g + 1) 36 5 v' (acc ++ [evOf last n0 st x 0]).length (evC (acc ++ [evOf last n0 st x 0]))) := by
              unfold Hid
              rw [evC_snoc, HC.out, List.length_append, HN.out]
              exact hown7
            have HOA := HO6.out.alloc (.cells #[.int .i64 L, .int .i64 k, .int .i64 d, .int .i64 x, .int .i64 (0 : Nat)] 36)
            have HA7 : Hid (AAt w7 g (q + 1)) := app_row HOA hg7 (row_alloc HAw6.out _) (by omega)
            have HF7 : Hid (w7.heap[f]? = some (.cells #[.int .i64 0, .int .i64 0] 30 (0, 0))) := app_row HOA hg7 (row_alloc HF6.out _) (by omega)
            have HG7 : Hid (w.grownBy w7 none) := app_grown (grown_alloc HG6.out _) (by omega) HOA hg7
            have HB7 : Hid (g + 1 ≤ w7.heap.size) := Nat.le_trans HB6.out (Nat.le_trans (by simp) hg7.size)
            have HNL : Hid ((acc ++ [evOf last n0 st x 0]).length = n + 1) := by unfold Hid; rw [List.length_append, HN.out]; rfl
            have cm : w7.cell? ⟨g, 0, none⟩ = some (.int .i64 ((q + 1) : Nat)) := cell_of HA7.out 0
            clear hown7 hg7 HOA
            go_wp2_with fail
            go_roundw
            case rel => exact ⟨(q + 1), L, st, acc ++ [evOf last n0 st x 0], by omega, rfl, rfl, HSK2, by rw [HNL.out]; omega, by rw [HNL.out]; omega, HMM, HX3, HA7, HF7, HO7, HG7, HB7⟩
            case measure =>
              have cr : wo.cell? ⟨g, 0, none⟩ = some (.int .i64 p) := cell_of HA.out 0
              rw [cm, cr]
              simp only [intOf, Int.toNat_natCast]
              omega

end Go.Proofs.Ytffdglhjfpnbpaa.WRUnp
