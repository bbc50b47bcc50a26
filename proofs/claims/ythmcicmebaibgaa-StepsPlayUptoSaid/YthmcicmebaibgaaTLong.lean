/- long, the program's: the walk. -/
import Derived.Test.YthmcicmebaibgaaTRead
import Derived.Test.YthmcicmebaibgaaTSame
namespace Go.Proofs.Ythmcicmebaibgaa.TLong
open Go Go.RowKit Go.Proofs.Ythmcicmebaibgaa.WMod Go.Proofs.Ythmcicmebaibgaa.TMod Go.Proofs.Ythmcicmebaibgaa.TRead Go.Proofs.Ythmcicmebaibgaa.Opn Go.Proofs.Ythmcicmebaibgaa.Hp Go.Proofs.Ythmcicmebaibgaa.Rd Go.Proofs.Ythmcicmebaibgaa.TWWrong Go.Proofs.Ythmcicmebaibgaa.TSame
set_option linter.unusedVariables false
set_option linter.unusedSimpArgs false

theorem lng_seen : ∀ (f : For) (lv : Nat) (seen all : Int), 0 ≤ seen → seen ≤ 256 → (lng lv f seen all).2.2 = 0 → seen + f.len ≤ (lng lv f seen all).2.1 ∧ (lng lv f seen all).2.1 ≤ 256
  | .nil, lv, seen, all, h0, h1, _ => by simp [lng, For.len]; omega
  | .cons t l evs k r, lv, seen, all, h0, h1, h => by
    unfold lng at h ⊢
    by_cases c1 : 256 < seen + 1
    · rw [if_pos c1] at h; cases h
    rw [if_neg c1] at h ⊢
    by_cases c2 : t < 0 ∨ 65536 < t ∨ l < 0 ∨ 65536 < l
    · rw [if_pos c2] at h; cases h
    rw [if_neg c2] at h ⊢
    by_cases c3 : wrong evs ≠ 0
    · rw [if_pos c3] at h; exact absurd h c3
    rw [if_neg c3] at h ⊢
    by_cases c4 : lateB l evs = true
    · rw [if_pos c4] at h; cases h
    rw [if_neg c4] at h ⊢
    simp only at h ⊢
    by_cases c5 : 32 < lv + 1 ∧ 0 < k.len
    · rw [if_pos c5] at h; cases h
    rw [if_neg c5] at h ⊢
    by_cases c6 : (lng (lv + 1) k (seen + 1) 0).2.2 ≠ 0
    · rw [if_pos c6] at h; exact absurd h c6
    rw [if_neg c6] at h ⊢
    obtain ⟨g1, g2⟩ := lng_seen k (lv + 1) (seen + 1) 0 (by omega) (by omega) (by omega)
    by_cases c7 : total < all + t * (l + (lng (lv + 1) k (seen + 1) 0).1)
    · rw [if_pos c7] at h; cases h
    rw [if_neg c7] at h ⊢
    obtain ⟨f1, f2⟩ := lng_seen r lv _ _ (by omega) (by omega) h
    simp only [For.len]
    omega

/-- Of events in order the last one tells whether one is late. -/
theorem late_last {evs : List Ev} (hw : wrong evs = 0) (l : Int) {n : Nat} (hn : evs.length = n + 1) {e : Ev} (he : evs[n]? = some e) : lateB l evs = decide (l ≤ e.at_) := by
  obtain ⟨h1, _⟩ := wrong_order hw
  obtain ⟨hlt, hE⟩ := List.getElem?_eq_some_iff.1 he
  rw [Bool.eq_iff_iff]
  unfold lateB
  simp only [List.any_eq_true, decide_eq_true_eq]
  constructor
  · rintro ⟨x, hx, hl⟩
    obtain ⟨i, hi, rfl⟩ := List.mem_iff_getElem.1 hx
    by_cases hin : i = n
    · subst hin; rw [← hE]; exact hl
    · have := List.pairwise_iff_getElem.1 h1 i n hi hlt (by omega)
      rw [hE] at this
      omega
  · intro h
    exact ⟨e, List.mem_of_getElem? he, h⟩
theorem late_none (l : Int) {evs : List Ev} (hn : evs.length = 0) : lateB l evs = false := by
  obtain rfl : evs = [] := List.eq_nil_of_length_eq_zero hn
  rfl

set_option maxHeartbeats 6000000 in
set_option maxRecDepth 100000 in
theorem long_calls : ∀ (N : Nat) (f : For), f.size < N → ∀ (lv : Nat) (seen : Int) (v : Value) (p : Nat) (w0 w : World), lv ≤ 33 → 0 ≤ seen → seen ≤ 256 → Secs w0 v f → w0.grownBy w none → w0.heap.size ≤ p →
    w.heap[p]? = some (.cells #[.int .i64 seen] 3 (0, 0)) →
    Calls Try.prog 13 #[v, .int .i64 (lv : Int), .pointer (some ⟨p, 0, none⟩)] w fun e w' => e = .returned (.tuple #[.int .i64 (top lv f seen).1, .int .i64 (top lv f seen).2.2]) ∧ Hid (w0.grownBy w' none) ∧ Hid (w'.heap[p]? = some (.cells #[.int .i64 (top lv f seen).2.1] 3 (0, 0))) ∧ Hid (w.grownBy w' (some p)) := by
  intro N
  induction N with
  | zero => intro f h; omega
  | succ N IH =>
    intro f hN lv seen v p w0 w hlv hs0 hs1 hsec hg hp hcell
    obtain ⟨ao, c, rfl⟩ := secs_open hsec
    have HSEC := Lib.hid hsec
    have IH' := Lib.hid (fun (k : For) (hk : k.size < f.size) => IH k (by omega))
    obtain ⟨n, hn⟩ : ∃ n, f.len = n := ⟨_, rfl⟩
    have HN := Lib.hid hn
    have HG := Lib.hid hg
    have HP := Lib.hid hp
    have HC := Lib.hid hcell
    by_cases hlev : 32 < lv ∧ 0 < f.len
    · have ht : top lv f seen = (0, seen, 4) := if_pos hlev
      rw [ht]
      rw [hn] at hlev ⊢
      obtain ⟨h1, h2⟩ := hlev
      clear hsec hn hg hp hcell ht IH
      have h1b : (32 : Int) < (lv : Int) := by omega
      have h2b : (0 : Int) < (n : Int) := by omega
      go_enter Try.func13, Try.ntmps13
      go_wp2_with fail
      go_ret2
      exact ⟨rfl, HG.out, HC.out, grown_refl _ _⟩
    have htop : top lv f seen = lng lv f seen 0 := if_neg hlev
    rw [htop]
    obtain ⟨RV, RS, RE, hres⟩ : ∃ a b c, lng lv f seen 0 = (a, b, c) := ⟨_, _, _, rfl⟩
    have HRES : Hid ((RV, RS, RE) = lng lv (f.drop 0) seen 0) := hres.symm
    rw [hres]
    rw [hn] at hlev ⊢
    simp only
    clear hsec hn hg hp hcell htop hres IH
    have hlevb : (32 : Int) < (lv : Int) → ¬ (0 : Int) < (n : Int) := fun h => by omega
    go_enter Try.func13, Try.ntmps13
    go_upto_region 1 with fail
    go_cut [21] from 15 to 21 (fun c wx => c = .bool false ∧ wx = w)
    case first =>
      by_cases h1 : 32 < lv
      · obtain rfl : n = 0 := by omega
        have h1b : (32 : Int) < (lv : Int) := by omega
        go_wp2_with fail
        go_meet
        exact ⟨rfl, rfl⟩
      · have h1b : ¬ (32 : Int) < (lv : Int) := by omega
        go_wp2_with fail
        go_meet
        exact ⟨rfl, rfl⟩
    case rest =>
      obtain ⟨rfl, hwc⟩ := hcut
      subst hwc
      obtain ⟨w, rfl⟩ : ∃ w : World, w = wc := ⟨_, rfl⟩
      go_wp2_with fail
      go_loopw [8, 24] (fun v8 v24 wr => ∃ (i : Nat) (all sn : Int), i ≤ n ∧ v24 = .int .i64 (i : Int) ∧ v8 = .int .i64 all ∧ 0 ≤ all ∧ all ≤ 1125899906842624 ∧ (i : Int) ≤ sn ∧ sn ≤ 256 ∧ Hid ((RV, RS, RE) = lng lv (f.drop i) sn all) ∧ Hid (w0.grownBy wr none) ∧ Hid (wr.heap[p]? = some (.cells #[.int .i64 sn] 3 (0, 0))) ∧ Hid (w.grownBy wr (some p))) (fun _ v24 _ => n - (intOf v24).toNat)
      case atStart => exact ⟨0, 0, seen, Nat.zero_le _, rfl, rfl, by omega, by omega, by omega, hs1, HRES.out, HG.out, HC.out, grown_refl _ _⟩
      case round =>
        clear HRES HG HC
        obtain ⟨i, all, sn, hi, rfl, rfl, hal0, hal1, hsn0, hsn1, HRES, HG, HC, HF⟩ := hrel
        by_cases hie : i = n
        · have hr : (RV, RS, RE) = (all, sn, 0) := by
            have h := HRES.out
            unfold Hid at h
            rw [hie, ← HN.out, For.drop_end] at h
            exact h
          simp only [Prod.mk.injEq] at hr
          obtain ⟨rfl, rfl, rfl⟩ := hr
          subst hie
          go_wp2_with fail
          go_ret2
          exact ⟨rfl, HG.out, HC.out, HF.out⟩
        have hin : i < n := by omega
        have hin2 : (i : Int) < (n : Int) := by omega
        obtain ⟨t, l, evs, k, r, hd⟩ := For.drop_cons (f := f) (n := i) (by rw [HN.out]; exact hin)
        obtain ⟨b, o, ve, vk, rfl, h0, h1, h2, h3, hev, hks⟩ := secs_at HSEC.out hd
        have c0 := grown_cell HG.out h0 (by simp)
        have c1 := grown_cell HG.out h1 (by simp)
        have c2 := grown_cell HG.out h2 (by simp)
        have c3 := grown_cell HG.out h3 (by simp)
        have HK := Lib.hid (For.size_kids hd)
        have HNX := Lib.hid (For.drop_succ i f hd)
        have HL := HRES.out
        unfold Hid at HL
        rw [hd, lng] at HL
        obtain ⟨ae, ce, rfl⟩ := evs_len hev
        obtain ⟨ak, ck, rfl⟩ := secs_open hks
        have HEV := Lib.hid hev
        have HKS := Lib.hid hks
        have HLN := Lib.hid HL
        obtain ⟨ne, hne⟩ : ∃ ne, evs.length = ne := ⟨_, rfl⟩
        obtain ⟨nk, hnk⟩ : ∃ nk, k.len = nk := ⟨_, rfl⟩
        have HNE := Lib.hid hne
        have HNK := Lib.hid hnk
        rw [hne] at c2
        rw [hnk] at c3
        clear HL hd h0 h1 h2 h3 hev hks HRES hne hnk
        have hps : p < wr.heap.size := lt_of HC.out
        have HGN : Hid (wr.grownBy (wr.alloc (.cells #[.int .i64 t, .int .i64 l, .slice ae ne ce, .slice ak nk ck] 44)) none) := grown_alloc (grown_refl _ _) _
        have HGA : Hid (w0.grownBy (wr.alloc (.cells #[.int .i64 t, .int .i64 l, .slice ae ne ce, .slice ak nk ck] 44)) none) := grown_trans HG.out HGN.out
        obtain ⟨sb, hsb⟩ : ∃ sb, wr.heap.size = sb := ⟨_, rfl⟩
        have HRB : Hid ((wr.alloc (.cells #[.int .i64 t, .int .i64 l, .slice ae ne ce, .slice ak nk ck] 44)).heap[sb]? = some (.cells #[.int .i64 t, .int .i64 l, .slice ae ne ce, .slice ak nk ck] 44 (0, 0))) := by unfold Hid; rw [← hsb]; exact heap_alloc_new _ _
        have HRP : Hid ((wr.alloc (.cells #[.int .i64 t, .int .i64 l, .slice ae ne ce, .slice ak nk ck] 44)).heap[p]? = some (.cells #[.int .i64 sn] 3 (0, 0))) := by unfold Hid; rw [heap_alloc_old _ _ hps]; exact HC.out
        have HSB := Lib.hid hsb
        have hpsb : p ≠ sb := by omega
        clear hsb
        go_upto_region 7 with fail
        simp only [HSB.out]
        obtain ⟨wa, hwa⟩ : ∃ wa, wr.alloc (.cells #[.int .i64 t, .int .i64 l, .slice ae ne ce, .slice ak nk ck] 44) = wa := ⟨_, rfl⟩
        rw [hwa] at HGA HRB HRP HGN
        have HFA : Hid (w.grownBy wa (some p)) := grown_trans HF.out (grown_none HGN.out _)
        simp only [hwa]
        clear c0 c1 c2 c3 hwa HGN HC HG hps HSB
        have p0 := cell_of HRP.out 0
        have p1 := free_of HRP.out 0
        go_upto_region 8 with fail
        have HG2 : Hid (wa.grownBy (wa.setCell ⟨p, 0, none⟩ (.int .i64 (sn + 1))) (some p)) := grown_set (p := ⟨p, 0, none⟩) (grown_refl _ _) (.inl rfl) _
        have HRP2 : Hid ((wa.setCell ⟨p, 0, none⟩ (.int .i64 (sn + 1))).heap[p]? = some (.cells #[.int .i64 (sn + 1)] 3 (0, 0))) := by unfold Hid; rw [set_self HRP.out]; rfl
        have HRB2 : Hid ((wa.setCell ⟨p, 0, none⟩ (.int .i64 (sn + 1))).heap[sb]? = some (.cells #[.int .i64 t, .int .i64 l, .slice ae ne ce, .slice ak nk ck] 44 (0, 0))) := by unfold Hid; rw [set_other (by simp; omega)]; exact HRB.out
        have HGB : Hid (w0.grownBy (wa.setCell ⟨p, 0, none⟩ (.int .i64 (sn + 1))) none) := grown_from HGA.out HG2.out (.inl HP.out)
        obtain ⟨wb, hwb⟩ : ∃ wb, wa.setCell ⟨p, 0, none⟩ (.int .i64 (sn + 1)) = wb := ⟨_, rfl⟩
        rw [hwb] at HRP2 HRB2 HGB HG2
        have HFB : Hid (w.grownBy wb (some p)) := grown_trans HFA.out HG2.out
        clear HF HFA
        simp only [hwb]
        clear p0 p1 hwb HG2 HRP HRB HGA
        have p0 := cell_of HRP2.out 0
        by_cases q1 : 256 < sn + 1
        · have hr := HLN.out
          unfold Hid at hr
          rw [if_pos q1] at hr
          simp only [Prod.mk.injEq] at hr
          obtain ⟨rfl, rfl, rfl⟩ := hr
          go_wp2_with fail
          go_ret2
          exact ⟨rfl, HGB.out, HRP2.out, HFB.out⟩
        have HL1 := Lib.hid ((HLN.out).trans (if_neg q1))
        clear HLN
        go_upto_region 10 with fail
        clear p0
        have b0 := cell_of HRB2.out 0
        have b1 := cell_of HRB2.out 1
        go_cut [54] from 37 to 54 (fun c wx => c = .bool (decide (t < 0 ∨ 65536 < t ∨ l < 0 ∨ 65536 < l)) ∧ wx = wb)
        case first =>
          clear HL1
          by_cases z1 : t < 0
          · go_wp2_with fail
            go_meet
            exact ⟨by simp [z1], rfl⟩
          by_cases z2 : 65536 < t
          · go_wp2_with fail
            go_meet
            exact ⟨by simp [z2], rfl⟩
          by_cases z3 : l < 0
          · go_wp2_with fail
            go_meet
            exact ⟨by simp [z3], rfl⟩
          by_cases z4 : 65536 < l
          · go_wp2_with fail
            go_meet
            exact ⟨by simp [z4], rfl⟩
          · go_wp2_with fail
            go_meet
            exact ⟨by simp [z1, z2, z3, z4], rfl⟩
        case rest =>
          obtain ⟨rfl, hwc⟩ := hcut
          subst hwc
          obtain ⟨wb, rfl⟩ : ∃ wb : World, wb = wc := ⟨_, rfl⟩
          by_cases q2 : t < 0 ∨ 65536 < t ∨ l < 0 ∨ 65536 < l
          · have hr := HL1.out
            unfold Hid at hr
            rw [if_pos q2] at hr
            simp only [Prod.mk.injEq] at hr
            obtain ⟨rfl, rfl, rfl⟩ := hr
            rw [decide_eq_true q2]
            clear q2
            go_wp2_with fail
            go_ret2
            exact ⟨rfl, HGB.out, HRP2.out, HFB.out⟩
          have HL2 := Lib.hid ((HL1.out).trans (if_neg q2))
          rw [decide_eq_false q2]
          have ht0 : 0 ≤ t ∧ t ≤ 65536 := by omega
          have hl0 : 0 ≤ l ∧ l ≤ 65536 := by omega
          obtain ⟨ht0, ht1⟩ := ht0
          obtain ⟨hl0, hl1⟩ := hl0
          clear HL1 q2
          have b2 := cell_of HRB2.out 2
          have WC := Lib.hid (wrong_calls ae ce evs wb (by rw [HNE.out]; exact evs_grown (by have := HEV.out; unfold Hid at this; rw [HNE.out] at this; exact this) HGB.out))
          obtain ⟨we, hwe⟩ : ∃ we, wrong evs = we := ⟨_, rfl⟩
          rw [hwe, HNE.out] at WC
          have HWE := Lib.hid hwe
          clear hwe b0 b1
          go_upto_region 13 with (go_at_call 20; refine (WC.out).mono ?_; rintro e1 w1 ⟨rfl, hg1⟩)
          have HG1 : Hid (w0.grownBy w1 none) := grown_trans HGB.out hg1.out
          have HF1 : Hid (w.grownBy w1 (some p)) := grown_trans HFB.out (grown_none hg1.out _)
          clear HFB
          have HRP3 : Hid (w1.heap[p]? = some (.cells #[.int .i64 (sn + 1)] 3 (0, 0))) := by unfold Hid; rw [hg1.out.block p (lt_of HRP2.out) (by simp)]; exact HRP2.out
          have HRB3 : Hid (w1.heap[sb]? = some (.cells #[.int .i64 t, .int .i64 l, .slice ae ne ce, .slice ak nk ck] 44 (0, 0))) := by unfold Hid; rw [hg1.out.block sb (lt_of HRB2.out) (by simp)]; exact HRB2.out
          clear b2 HRP2 HRB2 HGB hg1 WC
          by_cases q3 : we ≠ 0
          · have hr := HL2.out
            unfold Hid at hr
            rw [if_pos (by rw [HWE.out]; exact q3), HWE.out] at hr
            simp only [Prod.mk.injEq] at hr
            obtain ⟨rfl, rfl, rfl⟩ := hr
            have q3b : (RE != 0) = true := by simpa using q3
            go_wp2_with fail
            go_ret2
            exact ⟨rfl, HG1.out, HRP3.out, HF1.out⟩
          have q3' : we = 0 := by simpa using q3
          have HL3 := Lib.hid ((HL2.out).trans (if_neg (by rw [HWE.out]; exact q3)))
          subst q3'
          clear HL2 q3
          have b1 := cell_of HRB3.out 1
          have b2 := cell_of HRB3.out 2
          go_upto_region 16 with fail
          obtain ⟨LB, hLB⟩ : ∃ LB, lateB l evs = LB := ⟨_, rfl⟩
          have HLB := Lib.hid hLB
          clear hLB
          go_cut [77] from 64 to 77 (fun c wx => c = .bool LB ∧ Hid (∃ m, wx = w1.drewN m))
          case first =>
            by_cases hz : ne = 0
            · have HX : Hid (LB = false) := by unfold Hid; rw [← HLB.out]; exact late_none l (by rw [HNE.out]; exact hz)
              subst hz
              go_quiet (fail)
              go_wp2_with fail
              go_meet
              exact ⟨by rw [HX.out], ⟨_, rfl⟩⟩
            obtain ⟨ne1, rfl⟩ : ∃ ne1, ne = ne1 + 1 := ⟨ne - 1, by omega⟩
            obtain ⟨ev, hev⟩ : ∃ ev, evs[ne1]? = some ev := ⟨evs[ne1]'(by have := HNE.out; unfold Hid at this; omega), List.getElem?_eq_getElem _⟩
            have HX : Hid (LB = decide (l ≤ ev.at_)) := by unfold Hid; rw [← HLB.out]; exact late_last HWE.out l HNE.out hev
            obtain ⟨eb, eo, rfl, hrg⟩ := evs_at (k := ne1) HEV.out hev
            have e0 : w1.cell? ⟨eb, eo + ne1 * 5, none⟩ = some (.int .i64 ev.at_) := grown_cell HG1.out (hrg 0 _ rfl) (by simp)
            obtain ⟨ea, hea⟩ : ∃ ea, ev.at_ = ea := ⟨_, rfl⟩
            rw [hea] at HX e0
            clear hev hrg hea
            have hnz : (0 : Int) < (ne1 : Int) + 1 := by omega
            have hnzb : decide ((0 : Int) < (ne1 : Int) + 1) = true := decide_eq_true hnz
            have z0 : (0 : Int) ≤ (ne1 : Int) := by omega
            have z1 : (ne1 : Int) < (ne1 : Int) + 1 := by omega
            have hbig : (ne1 : Int) + 1 ≤ 4096 := by
              have h := HWE.out
              unfold Hid wrong at h
              split at h
              · cases h
              · have := HNE.out; unfold Hid at this; omega
            have ei : IntKind.i64.wrap ((ne1 : Int) + 1 - 1) = (ne1 : Int) := by rw [IntWalk.i64_in _ (by omega)]; omega
            go_quiet (fail)
            clear ei
            go_wp2_with fail
            go_meet
            exact ⟨by rw [HX.out], ⟨_, rfl⟩⟩
          case rest =>
            obtain ⟨rfl, HM⟩ := hcut
            clear b1 b2
            have HF2 : Hid (w.grownBy wc (some p)) := by unfold Hid; obtain ⟨m, rfl⟩ := HM.out; exact grown_drewN HF1.out m
            have HG2 : Hid (w0.grownBy wc none) := by unfold Hid; obtain ⟨m, rfl⟩ := HM.out; exact grown_drewN HG1.out m
            have HRP4 : Hid (wc.heap[p]? = some (.cells #[.int .i64 (sn + 1)] 3 (0, 0))) := by unfold Hid; obtain ⟨m, rfl⟩ := HM.out; exact HRP3.out
            have HRB4 : Hid (wc.heap[sb]? = some (.cells #[.int .i64 t, .int .i64 l, .slice ae ne ce, .slice ak nk ck] 44 (0, 0))) := by unfold Hid; obtain ⟨m, rfl⟩ := HM.out; exact HRB3.out
            clear HM HG1 HRP3 HRB3 HF1
            obtain ⟨w2, rfl⟩ : ∃ w2 : World, w2 = wc := ⟨_, rfl⟩
            cases LB
            rotate_left
            · have hr := HL3.out
              unfold Hid at hr
              rw [if_pos HLB.out] at hr
              simp only [Prod.mk.injEq] at hr
              obtain ⟨rfl, rfl, rfl⟩ := hr
              go_wp2_with fail
              go_ret2
              exact ⟨rfl, HG2.out, HRP4.out, HF2.out⟩
            have HL4 := Lib.hid ((HL3.out).trans (if_neg (by rw [HLB.out]; simp)))
            clear HL3
            obtain ⟨KV, KS, KE, hkres⟩ : ∃ a b c, top (lv + 1) k (sn + 1) = (a, b, c) := ⟨_, _, _, rfl⟩
            have hkt : (if 32 < lv + 1 ∧ 0 < k.len then ((0 : Int), sn + 1, (4 : Int)) else lng (lv + 1) k (sn + 1) 0) = (KV, KS, KE) := hkres
            have HKT := Lib.hid hkt
            have HL5 := HL4.out
            unfold Hid at HL5
            simp only [hkt] at HL5
            have HL6 := Lib.hid HL5
            clear HL4 HL5
            have hlv : lv ≤ 32 := by omega
            have RC := Lib.hid (IH'.out k HK.out (lv + 1) (sn + 1) (.slice ak nk ck) p w0 w2 (by omega) (by omega) (by omega) (by have := HKS.out; unfold Hid at this; rw [HNK.out] at this; exact this) HG2.out HP.out HRP4.out)
            rw [hkres] at RC
            simp only at RC
            have b3 := cell_of HRB4.out 3
            clear hkt hkres
            go_upto_region 19 with (go_at_call 13; refine (RC.out).mono ?_; rintro e1 w3 ⟨rfl, hg3, hp3, hq3⟩)
            have HRB5 : Hid (w3.heap[sb]? = some (.cells #[.int .i64 t, .int .i64 l, .slice ae ne ce, .slice ak nk ck] 44 (0, 0))) := by unfold Hid; rw [hq3.out.block sb (lt_of HRB4.out) (by simp; omega)]; exact HRB4.out
            have HF3 : Hid (w.grownBy w3 (some p)) := grown_trans HF2.out hq3.out
            clear b3 RC HG2 HRP4 HRB4 hq3 HF2
            by_cases q5 : KE ≠ 0
            · have hr := HL6.out
              unfold Hid at hr
              rw [if_pos q5] at hr
              simp only [Prod.mk.injEq] at hr
              obtain ⟨rfl, rfl, rfl⟩ := hr
              have q5b : (RE != 0) = true := by simpa using q5
              go_wp2_with fail
              go_ret2
              exact ⟨rfl, hg3.out, hp3.out, HF3.out⟩
            have q5' : KE = 0 := by simpa using q5
            have HL7 := Lib.hid ((HL6.out).trans (if_neg q5))
            subst q5'
            clear HL6 q5
            have hk5 : ¬ (32 < lv + 1 ∧ 0 < k.len) := fun h => by
              have := HKT.out
              unfold Hid at this
              rw [if_pos h] at this
              simp at this
            have hkl : lng (lv + 1) k (sn + 1) 0 = (KV, KS, 0) := by
              have := HKT.out
              unfold Hid at this
              rw [if_neg hk5] at this
              exact this
            obtain ⟨g1, g2, g3, g4⟩ := lng_fine lv k (lv + 1) (sn + 1) 0 (by omega) (by unfold total; omega) (by rw [hkl])
            obtain ⟨g5, g6⟩ := lng_seen k (lv + 1) (sn + 1) 0 (by omega) (by omega) (by rw [hkl])
            rw [hkl] at g2 g5 g6
            simp only at g2 g5 g6
            have hkv0 : 0 ≤ KV := by omega
            have hkv1 : KV ≤ 1125899906842624 := by unfold total at g3; omega
            have hks : sn + 1 ≤ KS := by omega
            have hks2 : KS ≤ 256 := g6
            clear g1 g2 g3 g4 g5 g6 hkl hk5
            have b0 := cell_of HRB5.out 0
            have b1 := cell_of HRB5.out 1
            obtain ⟨X, hX⟩ : ∃ X, l + KV = X := ⟨_, rfl⟩
            have hX0 : 0 ≤ X := by omega
            have hX1 : X ≤ 1125899906842624 + 65536 := by omega
            have HX := Lib.hid hX
            obtain ⟨M, hM⟩ : ∃ M, t * X = M := ⟨_, rfl⟩
            have hM0 : 0 ≤ M := by rw [← hM]; exact Int.mul_nonneg ht0 hX0
            have HM := Lib.hid hM
            have HL8 : Hid ((RV, RS, RE) = if 1125899906842624 < all + M then (0, KS, 4) else lng lv r KS (all + M)) := by
              have := HL7.out
              unfold Hid at this
              unfold Hid
              rw [hX, hM] at this
              exact this
            have HDV : Hid ((0 < t ∧ Int.ediv 1125899906842624 t < X) ↔ 1125899906842624 < M) := by
              unfold Hid
              constructor
              · rintro ⟨h1, h2⟩
                have h3 : Int.ediv 1125899906842624 t + 1 ≤ X := by omega
                have h4 : t * (Int.ediv 1125899906842624 t + 1) ≤ t * X := Int.mul_le_mul_of_nonneg_left h3 (by omega)
                have h5 := Int.mul_ediv_add_emod 1125899906842624 t
                have h6 := Int.emod_lt_of_pos 1125899906842624 h1
                have h7 : (1125899906842624 : Int) / t = Int.ediv 1125899906842624 t := rfl
                rw [h7] at h5
                rw [Int.mul_add, hM] at h4
                omega
              · intro h
                have h1 : 0 < t := by
                  rcases Int.lt_or_eq_of_le ht0 with h1 | h1
                  · exact h1
                  · rw [← hM, ← h1] at h; simp at h
                refine ⟨h1, ?_⟩
                rcases Int.lt_or_le (Int.ediv 1125899906842624 t) X with h2 | h2
                · exact h2
                · have h4 : t * X ≤ t * Int.ediv 1125899906842624 t := Int.mul_le_mul_of_nonneg_left h2 ht0
                  have h5 := Int.mul_ediv_add_emod 1125899906842624 t
                  have h6 := Int.emod_nonneg 1125899906842624 (show t ≠ 0 by omega)
                  have h7 : (1125899906842624 : Int) / t = Int.ediv 1125899906842624 t := rfl
                  rw [h7] at h5
                  rw [hM] at h4
                  omega
            obtain ⟨dv, hdv⟩ : ∃ dv, Int.ediv 1125899906842624 t = dv := ⟨_, rfl⟩
            rw [hdv] at HDV
            have HDQ : Hid (0 < t → Int.tdiv 1125899906842624 t = dv) := fun h => by rw [← hdv]; exact Int.tdiv_eq_ediv_of_nonneg (by omega)
            clear hX hM hdv HL7
            go_upto_region 21 with fail
            go_cut [102] from 90 to 102 (fun c wx => c = .bool (decide (1125899906842624 < M)) ∧ Hid (∃ m, wx = w3.drewN m))
            case first =>
              have eX : IntKind.i64.wrap (l + KV) = X := by rw [IntWalk.i64_in _ (by have := HX.out; unfold Hid at this; omega)]; exact HX.out
              by_cases z : 0 < t
              · have zb : decide ((0 : Int) < t) = true := decide_eq_true z
                have hq := HDQ.out z
                have HZ : Hid (decide (dv < X) = decide (1125899906842624 < M)) := by
                  unfold Hid
                  rw [Bool.eq_iff_iff, decide_eq_true_eq, decide_eq_true_eq, ← HDV.out]
                  exact ⟨fun h => ⟨z, h⟩, fun h => h.2⟩
                have htz : (t == 0) = false := by rw [beq_eq_false_iff_ne]; omega
                have hd0 : 0 ≤ dv := by rw [← hq]; exact Int.tdiv_nonneg (by omega) ht0
                have hd1 : dv ≤ 1125899906842624 := by rw [← hq, Int.tdiv_eq_ediv_of_nonneg (by omega)]; exact Int.ediv_le_self _ (by omega)
                have ed : wrap64 dv = dv := by unfold wrap64; omega
                have ed2 : IntKind.i64.wrap dv = dv := IntWalk.i64_in _ (by omega)
                go_quiet (fail)
                go_wp2_with fail
                go_meet
                exact ⟨by rw [← HZ.out], ⟨_, rfl⟩⟩
              · have zb : decide ((0 : Int) < t) = false := decide_eq_false z
                have HZ : Hid (false = decide (1125899906842624 < M)) := by
                  unfold Hid
                  rw [eq_comm, decide_eq_false_iff_not, ← HDV.out]
                  exact fun h => z h.1
                go_quiet (fail)
                go_wp2_with fail
                go_meet
                exact ⟨by rw [← HZ.out], ⟨_, rfl⟩⟩
            case rest =>
              obtain ⟨rfl, HM2⟩ := hcut
              have HG6 : Hid (w0.grownBy wc none) := by unfold Hid; obtain ⟨m, rfl⟩ := HM2.out; exact grown_drewN hg3.out m
              have HF6 : Hid (w.grownBy wc (some p)) := by unfold Hid; obtain ⟨m, rfl⟩ := HM2.out; exact grown_drewN HF3.out m
              have HRP6 : Hid (wc.heap[p]? = some (.cells #[.int .i64 KS] 3 (0, 0))) := by unfold Hid; obtain ⟨m, rfl⟩ := HM2.out; exact hp3.out
              have HRB6 : Hid (wc.heap[sb]? = some (.cells #[.int .i64 t, .int .i64 l, .slice ae ne ce, .slice ak nk ck] 44 (0, 0))) := by unfold Hid; obtain ⟨m, rfl⟩ := HM2.out; exact HRB5.out
              clear b0 b1 HM2 hg3 HF3 hp3 HRB5 HDV HDQ
              obtain ⟨w4, rfl⟩ : ∃ w4 : World, w4 = wc := ⟨_, rfl⟩
              by_cases q6 : 1125899906842624 < M
              · have hr := HL8.out
                unfold Hid at hr
                rw [if_pos (by omega)] at hr
                simp only [Prod.mk.injEq] at hr
                obtain ⟨rfl, rfl, rfl⟩ := hr
                rw [decide_eq_true q6]
                clear q6
                go_wp2_with fail
                go_ret2
                exact ⟨rfl, HG6.out, HRP6.out, HF6.out⟩
              rw [decide_eq_false q6]
              have b0 := cell_of HRB6.out 0
              have b1 := cell_of HRB6.out 1
              have hM1 : M ≤ 1125899906842624 := by omega
              have hX2 := HX.out
              have hM2 := HM.out
              unfold Hid at hX2 hM2
              clear q6
              by_cases q7 : 1125899906842624 < all + M
              · have hr := HL8.out
                unfold Hid at hr
                rw [if_pos q7] at hr
                simp only [Prod.mk.injEq] at hr
                obtain ⟨rfl, rfl, rfl⟩ := hr
                go_wp2_with fail
                go_ret2
                exact ⟨rfl, HG6.out, HRP6.out, HF6.out⟩
              · have HL9 : Hid ((RV, RS, RE) = lng lv (f.drop (i + 1)) KS (all + M)) := by
                  have := (HL8.out).trans (if_neg q7)
                  rw [HNX.out]
                  exact this
                go_wp2_with fail
                clear hX2 hM2
                refine ⟨?_, by simp [intOf]; omega⟩
                first
                  | exact ⟨i + 1, all + M, KS, by omega, rfl, rfl, by omega, by omega, by omega, by omega, HL9.out, HG6.out, HRP6.out, HF6.out⟩
                  | (repeat apply Exists.intro
                     refine ⟨?_, rfl⟩
                     exact ⟨i + 1, all + M, KS, by omega, rfl, rfl, by omega, by omega, by omega, by omega, HL9.out, HG6.out, HRP6.out, HF6.out⟩)

end Go.Proofs.Ythmcicmebaibgaa.TLong
