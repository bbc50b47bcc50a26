/- Order, the reference's: the walk. -/
import Derived.Test.YtdnmimfichijgaaKStep
import Derived.Test.YtdnmimfichijgaaKRWrong
import Derived.Test.YtdnmimfichijgaaKTk
import Derived.Test.YtdnmimfichijgaaKNext
import Derived.Deep.RegionWith
namespace Go.Proofs.Ytdnmimfichijgaa.KOrd
open Go Go.RowKit Go.Proofs.Ytdnmimfichijgaa.KMod Go.Proofs.Ytdnmimfichijgaa.KRead Go.Proofs.Ytdnmimfichijgaa.KLess Go.Proofs.Ytdnmimfichijgaa.KCells Go.Proofs.Ytdnmimfichijgaa.KClone Go.Proofs.Ytdnmimfichijgaa.KStep Go.Proofs.Ytdnmimfichijgaa.Hp Go.Proofs.Ytdnmimfichijgaa.Rd Go.Proofs.Ytdnmimfichijgaa.Opn
set_option linter.unusedVariables false
set_option linter.unusedSimpArgs false

theorem grown_drew_alloc (w : World) (o : Obj) : w.grownBy (w.drew.alloc o) none := grown_alloc (grown_drew (grown_refl _ _)) _

theorem grown_new2 {a b c : World} {k : Nat} (h : a.grownBy b none) (g : b.grownBy c (some k)) (hk : a.heap.size ≤ k) : a.grownBy c none := grown_from h g (.inl hk)

theorem grown_alloc_drew (w : World) (o : Obj) : w.grownBy ((w.alloc o).drew) none := grown_drew (grown_alloc (grown_refl _ _) _)

/-- A tone put into a line, from the front. -/
def insR (l : List Tone) (t : Tone) : List Tone := l.take (insF l t) ++ t :: l.drop (insF l t)
def ordR (ts : List Tone) : List Tone := ts.foldl insR []

theorem insF_le (v : List Tone) (t : Tone) : insF v t ≤ v.length := by
  unfold insF
  exact (List.takeWhile_prefix _).length_le
theorem insR_len (v : List Tone) (t : Tone) : (insR v t).length = v.length + 1 := by
  unfold insR
  have := insF_le v t
  simp
  omega
/-- Where the search from the front stands. -/
theorem insF_drop {v : List Tone} {t : Tone} {k : Nat} (h : ∀ x ∈ v.take k, lessB t x = false) : insF v t = insF (v.drop k) t + min k v.length := by
  unfold insF
  conv => lhs; rw [← List.take_append_drop k v]
  rw [List.takeWhile_append_of_pos (by intro x hx; rw [h x hx]; rfl), List.length_append, List.length_take]
  omega

set_option maxHeartbeats 2000000 in
set_option maxRecDepth 100000 in
theorem order_calls (ao : Option Addr) (c : Nat) (ts : List Tone) (w : World) (hv : Tos w (.slice ao ts.length c) ts) (hb : ts.length ≤ 1099511627776) :
    Calls Try.prog 13 #[.slice ao ts.length c] w fun e w' => ∃ oa oc, e = .returned (.slice oa ts.length oc) ∧ Hid (w'.ownsRow w.heap.size 38 5 (.slice oa ts.length oc) ts.length (flC Tone.cells (ordR ts))) ∧ Hid (w.grownBy w' none) := by
  obtain ⟨n, hn⟩ : ∃ n, ts.length = n := ⟨_, rfl⟩
  have HN := Lib.hid hn
  have HV := Lib.hid hv
  rw [hn] at HV hb ⊢
  clear hv hn
  obtain ⟨i0, hi0, hz0, hz1, hz2⟩ := info_parts info38
  have hnb : (n : Int) ≤ 1099511627776 := by omega
  go_enter Try.func13, Try.ntmps13
  go_wp2_with fail
  go_loopw [3, 9] (fun v3 v9 wr => ∃ (k : Nat) (oa : Option Addr) (oc : Nat), k ≤ n ∧ v3 = .slice oa k oc ∧ v9 = .int .i64 (k : Int) ∧ Hid ((ordR (ts.take k)).length = k) ∧ Hid (wr.ownsRow w.heap.size 38 5 (.slice oa k oc) k (flC Tone.cells (ordR (ts.take k)))) ∧ Hid (w.grownBy wr none)) (fun _ v9 _ => n - (intOf v9).toNat)
  case atStart => exact ⟨0, none, 0, Nat.zero_le _, rfl, rfl, rfl, World.ownsRow_nil _ _ _ _, grown_refl _ _⟩
  case round =>
    obtain ⟨k, oa, oc, hk, rfl, rfl, HOL, HO, HG⟩ := hrel
    obtain ⟨wz, hwz⟩ : ∃ wz : World, wz = wr := ⟨_, rfl⟩
    subst hwz
    by_cases hkn : k = n
    · have HF : Hid (ts.take k = ts) := by unfold Hid; rw [hkn, List.take_of_length_le (by rw [HN.out]; exact Nat.le_refl _)]
      have hk2 := hkn.symm
      subst hk2
      clear hkn
      go_wp2_with fail
      go_ret
      refine ⟨_, _, rfl, ?_, HG.out⟩
      have h := HO.out
      rw [HF.out] at h
      exact h
    have hkl : (k : Int) < (n : Int) := by omega
    obtain ⟨t, ht⟩ : ∃ t, ts[k]? = some t := ⟨ts[k]'(by rw [HN.out]; omega), List.getElem?_eq_getElem _⟩
    obtain ⟨b, off, rfl, _, hrg⟩ := sla_at HV.out ht
    have HTK : Hid (ordR (ts.take (k + 1)) = insR (ordR (ts.take k)) t) := by
      unfold Hid ordR
      rw [List.take_add_one, ht]
      simp
    clear ht
    obtain ⟨L, hL⟩ : ∃ L, ordR (ts.take k) = L := ⟨_, rfl⟩
    rw [hL] at HTK HOL HO
    clear hL
    obtain ⟨ta, tl, tt, tal, to_⟩ := t
    have e0 : wz.cell? ⟨b, off + k * 5, none⟩ = some (.int .i64 ta) := grown_cell HG.out (hrg 0 _ rfl) (by simp)
    have e1 : wz.cell? ⟨b, off + k * 5 + 1, none⟩ = some (.int .i64 tl) := grown_cell HG.out (hrg 1 _ rfl) (by simp)
    have e2 : wz.cell? ⟨b, off + k * 5 + 2, none⟩ = some (.int .i64 tt) := grown_cell HG.out (hrg 2 _ rfl) (by simp)
    have e3 : wz.cell? ⟨b, off + k * 5 + 3, none⟩ = some (.int .i64 tal) := grown_cell HG.out (hrg 3 _ rfl) (by simp)
    have e4 : wz.cell? ⟨b, off + k * 5 + 4, none⟩ = some (.int .i64 to_) := grown_cell HG.out (hrg 4 _ rfl) (by simp)
    clear hrg
    obtain ⟨tb, htb⟩ : ∃ tb, wz.heap.size = tb := ⟨_, rfl⟩
    have HTB := Lib.hid htb
    clear htb
    go_upto_region 5 with fail
    simp only [HTB.out]
    obtain ⟨w1, hw1⟩ : ∃ w1, wz.alloc (.cells #[.int .i64 ta, .int .i64 tl, .int .i64 tt, .int .i64 tal, .int .i64 to_] 38) = w1 := ⟨_, rfl⟩
    have HG1 : Hid (w.grownBy w1 none) := by unfold Hid; rw [← hw1]; exact grown_alloc HG.out _
    have HR1 : Hid (w1.heap[tb]? = some (.cells #[.int .i64 ta, .int .i64 tl, .int .i64 tt, .int .i64 tal, .int .i64 to_] 38 (0, 0))) := by unfold Hid; rw [← hw1, ← HTB.out]; exact heap_alloc_new _ _
    have HO1 : Hid (w1.ownsRow w.heap.size 38 5 (.slice oa k oc) k (flC Tone.cells L)) := by unfold Hid; rw [← hw1]; exact own_kept HO.out (grown_alloc (grown_refl _ _) _)
    simp only [hw1]
    clear hw1 e0 e1 e2 e3 e4 HO
    have HLT : Hid (Tos w1 (.slice oa k oc) L) := by
      have h9 : w1.ownsRow w.heap.size 38 5 (.slice oa k oc) L.length (flC Tone.cells L) := by rw [HOL.out]; exact HO1.out
      exact sla_of_own tone_len h9 AnyB (fun _ _ => trivial)
    have HIR : Hid (insF L ⟨ta, tl, tt, tal, to_⟩ = insF (L.drop 0) ⟨ta, tl, tt, tal, to_⟩ + 0) := rfl
    go_wp2_with fail
    go_loopw [6] (fun v6 wr => ∃ j : Nat, j ≤ k ∧ v6 = .int .i64 (j : Int) ∧ Hid (insF L ⟨ta, tl, tt, tal, to_⟩ = insF (L.drop j) ⟨ta, tl, tt, tal, to_⟩ + j) ∧ Hid (w1.grownBy wr none)) (fun v6 _ => k - (intOf v6).toNat)
    case atStart => exact ⟨0, Nat.zero_le _, rfl, HIR.out, grown_refl _ _⟩
    case round =>
      obtain ⟨j, hj, rfl, HJ, HGJ⟩ := hrel
      obtain ⟨wy, hwy⟩ : ∃ wy : World, wy = wr := ⟨_, rfl⟩
      subst hwy
      have HRY : Hid (wy.heap[tb]? = some (.cells #[.int .i64 ta, .int .i64 tl, .int .i64 tt, .int .i64 tal, .int .i64 to_] 38 (0, 0))) := row_kept HGJ.out HR1.out (by simp)
      by_cases hjk : j = k
      · have HIN : Hid (insF L ⟨ta, tl, tt, tal, to_⟩ = k) := by
          unfold Hid
          rw [HJ.out, hjk, List.drop_of_length_le (by rw [HOL.out]; exact Nat.le_refl _)]
          simp [insF]
        have hjb : decide ((j : Int) < (k : Int)) = false := decide_eq_false (by omega)
        have hjc : decide (j < k) = false := decide_eq_false (by omega)
        have hjn : ¬ (j : Int) < (k : Int) := by omega
        have HJK := Lib.hid hjk
        clear hjk
        go_upto_region 6 with fail
        go_quiet (fail)
        go_wp2_with fail
        have hjk := HJK.out
        clear hjb hjc hjn HJK
        subst hjk
        obtain ⟨wf, hwf⟩ : ∃ wf, wy.drewN nq = wf := ⟨_, rfl⟩
        have HGF : Hid (w1.grownBy wf none) := by unfold Hid; rw [← hwf]; exact grown_drewN HGJ.out _
        have HRF : Hid (wf.heap[tb]? = some (.cells #[.int .i64 ta, .int .i64 tl, .int .i64 tt, .int .i64 tal, .int .i64 to_] 38 (0, 0))) := by unfold Hid; rw [← hwf]; exact HRY.out
        have hjk9 : j ≤ j := Nat.le_refl _
        obtain ⟨kk, hkk⟩ : ∃ kk, j = kk := ⟨_, rfl⟩
        simp only [hwf]
        clear hwf HRY HGJ hkk kk
        have HIL : Hid (insR L ⟨ta, tl, tt, tal, to_⟩ = L.take j ++ ⟨ta, tl, tt, tal, to_⟩ :: L.drop j) := by unfold Hid insR; rw [HIN.out]
        have hML : L.length = j := HOL.out
        have HMB : Hid (j + 1 ≤ n) := by unfold Hid; omega
        have HT1 : Hid (Tos wf (.slice oa j oc) (L.take j)) := (sla_take HLT.out hML hjk9).grown HGF.out
        have HLF : Hid (Tos wf (.slice oa j oc) L) := HLT.out.grown HGF.out
        have HGW : Hid (w.grownBy wf none) := grown_trans HG1.out HGF.out
        have hjmi : (j : Int) ≤ (j : Int) := by omega
        have HJL : Hid ((flC Tone.cells (L.take j)).length = j * 5) := by unfold Hid; rw [flC_len tone_len, List.length_take, Nat.min_eq_left (by omega)]
        have HDL : Hid ((flC Tone.cells (L.drop j)).length = (0) * 5) := by unfold Hid; rw [flC_len tone_len, List.length_drop, hML]; try simp
        have HMN : Hid (j ≤ 1099511627776) := by unfold Hid; omega
        have HTBL : Hid (tb < wf.heap.size) := lt_of HRF.out
        have qa0 : ∀ o, (wf.alloc o).drew.cell? ⟨tb, 0, none⟩ = some (.int .i64 ta) := fun o => cell_of (row_kept (grown_alloc_drew wf o) HRF.out (by simp)) 0
        have qa1 : ∀ o, (wf.alloc o).drew.cell? ⟨tb, 1, none⟩ = some (.int .i64 tl) := fun o => cell_of (row_kept (grown_alloc_drew wf o) HRF.out (by simp)) 1
        have qa2 : ∀ o, (wf.alloc o).drew.cell? ⟨tb, 2, none⟩ = some (.int .i64 tt) := fun o => cell_of (row_kept (grown_alloc_drew wf o) HRF.out (by simp)) 2
        have qa3 : ∀ o, (wf.alloc o).drew.cell? ⟨tb, 3, none⟩ = some (.int .i64 tal) := fun o => cell_of (row_kept (grown_alloc_drew wf o) HRF.out (by simp)) 3
        have qa4 : ∀ o, (wf.alloc o).drew.cell? ⟨tb, 4, none⟩ = some (.int .i64 to_) := fun o => cell_of (row_kept (grown_alloc_drew wf o) HRF.out (by simp)) 4
        have qd0 : wf.drew.cell? ⟨tb, 0, none⟩ = some (.int .i64 ta) := cell_of HRF.out 0
        have qd1 : wf.drew.cell? ⟨tb, 1, none⟩ = some (.int .i64 tl) := cell_of HRF.out 1
        have qd2 : wf.drew.cell? ⟨tb, 2, none⟩ = some (.int .i64 tt) := cell_of HRF.out 2
        have qd3 : wf.drew.cell? ⟨tb, 3, none⟩ = some (.int .i64 tal) := cell_of HRF.out 3
        have qd4 : wf.drew.cell? ⟨tb, 4, none⟩ = some (.int .i64 to_) := cell_of HRF.out 4
        have hown := HO1.out.2
        clear hML
        rcases hown with ⟨h, h0⟩ | ⟨g, cap, cur, hv, _, _, hnc, _⟩
        · simp only [Value.slice.injEq] at h
          obtain ⟨rfl, hM0, rfl⟩ := h
          subst hM0
          have hdr : L.drop 0 = [] := List.drop_of_length_le (by rw [HOL.out]; exact Nat.le_refl _)
          have HT2 : Hid (Tos wf (.slice none 0 0) (L.drop 0)) := by unfold Hid; rw [hdr]; exact .inr ⟨_, _, rfl, rfl⟩
          clear HO1 HLT hdr
          go_region_law (first
            | (refine step_append_emp rfl _ _ 30 rfl wf.heap.size 38 i0 (.agg #[.int .i64 0, .int .i64 0, .int .i64 0, .int .i64 0, .int .i64 0]) 5 40 Try.underlying30 hi0 hz0 hz1 hz2 rfl (by decide) _ rfl (by first | exact alloc2_old _ _ _ | exact alloc2_new _ _ _ | exact heap_alloc_new _ _) (by simp) (none) 0 (0) (flC Tone.cells (L.take 0)) rfl HJL.out (news_tones (HT1.out.grown (by repeat (first | exact grown_refl _ _ | refine grown_alloc ?_ _ | refine grown_drew ?_)))) (tone_one _) (by have := HMN.out; unfold maxLen; omega) (by have := HMN.out; omega) (by first | (simp; done) | (simp; omega)) ?_; intro oa1 oc1 w1' ho1 hg1; have HO1_ := Lib.hid ho1; have HG1_ : Hid (wf.grownBy w1' none) := grown_new2 (by repeat (first | exact grown_refl _ _ | refine grown_alloc ?_ _ | refine grown_drew ?_)) hg1 (by simp); have hr9 := row_kept HG1_.out HRF.out (by simp); have r0 := cell_of hr9 0; have r1 := cell_of hr9 1; have r2 := cell_of hr9 2; have r3 := cell_of hr9 3; have r4 := cell_of hr9 4; clear hr9 ho1; first | have HB_ := Lib.hid (row_kept hg1 (alloc2_old wf.drew (.cells #[.int .i64 ta, .int .i64 tl, .int .i64 tt, .int .i64 tal, .int .i64 to_] 38) _) (by simp)) | have HB_ := Lib.hid (row_kept hg1 (alloc2_new wf.drew _ (.cells #[.int .i64 ta, .int .i64 tl, .int .i64 tt, .int .i64 tal, .int .i64 to_] 38)) (by simp)) | skip)
            | (refine step_append_in rfl _ _ 30 rfl wf.heap.size 38 i0 (.agg #[.int .i64 0, .int .i64 0, .int .i64 0, .int .i64 0, .int .i64 0]) 5 40 Try.underlying30 hi0 hz0 hz1 hz2 rfl (by decide) (.slice oa1 0 oc1) 0 (flC Tone.cells (L.take 0)) rfl (by first | exact HO1_.out | exact own_kept HO1_.out (grown_alloc (grown_refl _ _) _)) (some ⟨_, 0, none⟩) 1 1 [.int .i64 ta, .int .i64 tl, .int .i64 tt, .int .i64 tal, .int .i64 to_] rfl rfl (news_row (by first | exact heap_alloc_new _ _ | exact HB_.out)) (by simp [Value.oneCell']) (by have := HMN.out; unfold maxLen; omega) (by have := HMN.out; omega) (by first | exact HG1_.out.size | exact Nat.le_trans HG1_.out.size (by simp)) ?_; intro oa2 oc2 w2' ho2 hg2 hb2; have HO2_ := Lib.hid ho2; have HG2_ : Hid (wf.grownBy w2' none) := grown_own (by first | exact HG1_.out | exact grown_alloc HG1_.out _) (by first | exact HO1_.out | exact own_kept HO1_.out (grown_alloc (grown_refl _ _) _)) (Nat.le_refl _) hg2; clear ho2 hg2 hb2)
            | (refine step_append_in rfl _ _ 30 rfl wf.heap.size 38 i0 (.agg #[.int .i64 0, .int .i64 0, .int .i64 0, .int .i64 0, .int .i64 0]) 5 40 Try.underlying30 hi0 hz0 hz1 hz2 rfl (by decide) (.slice oa2 (0 + 1) oc2) (0 + 1) (flC Tone.cells (L.take 0) ++ [.int .i64 ta, .int .i64 tl, .int .i64 tt, .int .i64 tal, .int .i64 to_]) rfl HO2_.out (none) (0) (0) (flC Tone.cells (L.drop 0)) rfl HDL.out (news_tones (HT2.out.grown HG2_.out)) (tone_one _) (by have := HMN.out; unfold maxLen; omega) (by have := HMN.out; omega) HG2_.out.size ?_; intro oa3 oc3 w3' ho3 hg3 hb3; have HO3_ := Lib.hid ho3; have HG3_ : Hid (wf.grownBy w3' none) := grown_own HG2_.out HO2_.out (Nat.le_refl _) hg3; clear ho3 hg3 hb3))
          all_goals
            have HFL : Hid (flC Tone.cells (insR L ⟨ta, tl, tt, tal, to_⟩) = flC Tone.cells (L.take 0) ++ [.int .i64 ta, .int .i64 tl, .int .i64 tt, .int .i64 tal, .int .i64 to_] ++ flC Tone.cells (L.drop 0)) := by
              unfold Hid
              rw [HIL.out, flC_append, List.append_assoc]
              rfl
            have HO4 : Hid (w3'.ownsRow w.heap.size 38 5 (.slice oa3 (0 + 1) oc3) (0 + 1) (flC Tone.cells (insR L ⟨ta, tl, tt, tal, to_⟩))) := by
              unfold Hid
              rw [HFL.out]
              have h := HO3_.out
              rw [show 0 + 1 + (0) = 0 + 1 from by omega] at h
              exact KWith.own_mono h HGW.out.size
            have HLN : Hid ((insR L ⟨ta, tl, tt, tal, to_⟩).length = 0 + 1) := by unfold Hid; rw [insR_len, HOL.out]
            have hwk : IntKind.i64.wrap ((0 : Int) + 1) = (0 : Int) + 1 := IntWalk.i64_in _ (by omega)
            have hlen : 0 + 1 + (0) = 0 + 1 := by omega
            try simp only [hlen]
            have HLEN := Lib.hid hlen
            clear hlen
            go_wp2_with fail
            refine ⟨?_, by simp [intOf]; omega⟩
            first
              | exact ⟨0 + 1, oa3, oc3, by omega, rfl, rfl, by rw [HTK.out]; exact HLN.out, by rw [HTK.out]; exact HO4.out, grown_trans HGW.out HG3_.out⟩
              | (repeat apply Exists.intro
                 refine ⟨?_, rfl⟩
                 exact ⟨0 + 1, oa3, oc3, by omega, rfl, rfl, by rw [HTK.out]; exact HLN.out, by rw [HTK.out]; exact HO4.out, grown_trans HGW.out HG3_.out⟩)
        simp only [Value.slice.injEq, Option.some.injEq, Addr.mk.injEq] at hv
        obtain ⟨rfl, _, rfl⟩ := hv
        have hMci : (j : Int) ≤ (oc : Int) := by omega
        have hjoc : (j : Int) ≤ (oc : Int) := by omega
        by_cases hjo : oc = j
        · subst hjo
          have hdr : L.drop oc = [] := List.drop_of_length_le (by rw [HOL.out]; exact Nat.le_refl _)
          have HT2 : Hid (Tos wf (.slice (some ⟨g, 0, none⟩) 0 0) (L.drop oc)) := by unfold Hid; rw [hdr]; exact .inr ⟨_, _, rfl, rfl⟩
          clear HO1 HLT hdr
          go_region_law (first
            | (refine step_append_emp rfl _ _ 30 rfl wf.heap.size 38 i0 (.agg #[.int .i64 0, .int .i64 0, .int .i64 0, .int .i64 0, .int .i64 0]) 5 40 Try.underlying30 hi0 hz0 hz1 hz2 rfl (by decide) _ rfl (by first | exact alloc2_old _ _ _ | exact alloc2_new _ _ _ | exact heap_alloc_new _ _) (by simp) (some ⟨g, 0, none⟩) oc (oc) (flC Tone.cells (L.take oc)) rfl HJL.out (news_tones (HT1.out.grown (by repeat (first | exact grown_refl _ _ | refine grown_alloc ?_ _ | refine grown_drew ?_)))) (tone_one _) (by have := HMN.out; unfold maxLen; omega) (by have := HMN.out; omega) (by first | (simp; done) | (simp; omega)) ?_; intro oa1 oc1 w1' ho1 hg1; have HO1_ := Lib.hid ho1; have HG1_ : Hid (wf.grownBy w1' none) := grown_new2 (by repeat (first | exact grown_refl _ _ | refine grown_alloc ?_ _ | refine grown_drew ?_)) hg1 (by simp); have hr9 := row_kept HG1_.out HRF.out (by simp); have r0 := cell_of hr9 0; have r1 := cell_of hr9 1; have r2 := cell_of hr9 2; have r3 := cell_of hr9 3; have r4 := cell_of hr9 4; clear hr9 ho1; first | have HB_ := Lib.hid (row_kept hg1 (alloc2_old wf.drew (.cells #[.int .i64 ta, .int .i64 tl, .int .i64 tt, .int .i64 tal, .int .i64 to_] 38) _) (by simp)) | have HB_ := Lib.hid (row_kept hg1 (alloc2_new wf.drew _ (.cells #[.int .i64 ta, .int .i64 tl, .int .i64 tt, .int .i64 tal, .int .i64 to_] 38)) (by simp)) | skip)
            | (refine step_append_in rfl _ _ 30 rfl wf.heap.size 38 i0 (.agg #[.int .i64 0, .int .i64 0, .int .i64 0, .int .i64 0, .int .i64 0]) 5 40 Try.underlying30 hi0 hz0 hz1 hz2 rfl (by decide) (.slice oa1 oc oc1) oc (flC Tone.cells (L.take oc)) rfl (by first | exact HO1_.out | exact own_kept HO1_.out (grown_alloc (grown_refl _ _) _)) (some ⟨_, 0, none⟩) 1 1 [.int .i64 ta, .int .i64 tl, .int .i64 tt, .int .i64 tal, .int .i64 to_] rfl rfl (news_row (by first | exact heap_alloc_new _ _ | exact HB_.out)) (by simp [Value.oneCell']) (by have := HMN.out; unfold maxLen; omega) (by have := HMN.out; omega) (by first | exact HG1_.out.size | exact Nat.le_trans HG1_.out.size (by simp)) ?_; intro oa2 oc2 w2' ho2 hg2 hb2; have HO2_ := Lib.hid ho2; have HG2_ : Hid (wf.grownBy w2' none) := grown_own (by first | exact HG1_.out | exact grown_alloc HG1_.out _) (by first | exact HO1_.out | exact own_kept HO1_.out (grown_alloc (grown_refl _ _) _)) (Nat.le_refl _) hg2; clear ho2 hg2 hb2)
            | (refine step_append_in rfl _ _ 30 rfl wf.heap.size 38 i0 (.agg #[.int .i64 0, .int .i64 0, .int .i64 0, .int .i64 0, .int .i64 0]) 5 40 Try.underlying30 hi0 hz0 hz1 hz2 rfl (by decide) (.slice oa2 (oc + 1) oc2) (oc + 1) (flC Tone.cells (L.take oc) ++ [.int .i64 ta, .int .i64 tl, .int .i64 tt, .int .i64 tal, .int .i64 to_]) rfl HO2_.out (some ⟨g, 0, none⟩) (0) (0) (flC Tone.cells (L.drop oc)) rfl HDL.out (news_tones (HT2.out.grown HG2_.out)) (tone_one _) (by have := HMN.out; unfold maxLen; omega) (by have := HMN.out; omega) HG2_.out.size ?_; intro oa3 oc3 w3' ho3 hg3 hb3; have HO3_ := Lib.hid ho3; have HG3_ : Hid (wf.grownBy w3' none) := grown_own HG2_.out HO2_.out (Nat.le_refl _) hg3; clear ho3 hg3 hb3))
          all_goals
            have HFL : Hid (flC Tone.cells (insR L ⟨ta, tl, tt, tal, to_⟩) = flC Tone.cells (L.take oc) ++ [.int .i64 ta, .int .i64 tl, .int .i64 tt, .int .i64 tal, .int .i64 to_] ++ flC Tone.cells (L.drop oc)) := by
              unfold Hid
              rw [HIL.out, flC_append, List.append_assoc]
              rfl
            have HO4 : Hid (w3'.ownsRow w.heap.size 38 5 (.slice oa3 (oc + 1) oc3) (oc + 1) (flC Tone.cells (insR L ⟨ta, tl, tt, tal, to_⟩))) := by
              unfold Hid
              rw [HFL.out]
              have h := HO3_.out
              rw [show oc + 1 + (0) = oc + 1 from by omega] at h
              exact KWith.own_mono h HGW.out.size
            have HLN : Hid ((insR L ⟨ta, tl, tt, tal, to_⟩).length = oc + 1) := by unfold Hid; rw [insR_len, HOL.out]
            have hwk : IntKind.i64.wrap ((oc : Int) + 1) = (oc : Int) + 1 := IntWalk.i64_in _ (by omega)
            have hlen : oc + 1 + (0) = oc + 1 := by omega
            try simp only [hlen]
            have HLEN := Lib.hid hlen
            clear hlen
            go_wp2_with fail
            refine ⟨?_, by simp [intOf]; omega⟩
            first
              | exact ⟨oc + 1, oa3, oc3, by omega, rfl, rfl, by rw [HTK.out]; exact HLN.out, by rw [HTK.out]; exact HO4.out, grown_trans HGW.out HG3_.out⟩
              | (repeat apply Exists.intro
                 refine ⟨?_, rfl⟩
                 exact ⟨oc + 1, oa3, oc3, by omega, rfl, rfl, by rw [HTK.out]; exact HLN.out, by rw [HTK.out]; exact HO4.out, grown_trans HGW.out HG3_.out⟩)
        have HT2 : Hid (Tos wf (.slice (some ⟨g, j * 5, none⟩) (0) (oc - j)) (L.drop j)) := by
          rw [List.drop_of_length_le (by rw [HOL.out]; exact Nat.le_refl _)]
          exact .inr ⟨_, _, rfl, rfl⟩
        have hjo3 : ¬ (oc : Int) = (j : Int) := by omega
        clear HO1 HLT
        go_region_law (first
          | (refine step_append_emp rfl _ _ 30 rfl wf.heap.size 38 i0 (.agg #[.int .i64 0, .int .i64 0, .int .i64 0, .int .i64 0, .int .i64 0]) 5 40 Try.underlying30 hi0 hz0 hz1 hz2 rfl (by decide) _ rfl (by first | exact alloc2_old _ _ _ | exact alloc2_new _ _ _ | exact heap_alloc_new _ _) (by simp) (some ⟨g, 0, none⟩) j (oc) (flC Tone.cells (L.take j)) rfl HJL.out (news_tones (HT1.out.grown (by repeat (first | exact grown_refl _ _ | refine grown_alloc ?_ _ | refine grown_drew ?_)))) (tone_one _) (by have := HMN.out; unfold maxLen; omega) (by have := HMN.out; omega) (by first | (simp; done) | (simp; omega)) ?_; intro oa1 oc1 w1' ho1 hg1; have HO1_ := Lib.hid ho1; have HG1_ : Hid (wf.grownBy w1' none) := grown_new2 (by repeat (first | exact grown_refl _ _ | refine grown_alloc ?_ _ | refine grown_drew ?_)) hg1 (by simp); have hr9 := row_kept HG1_.out HRF.out (by simp); have r0 := cell_of hr9 0; have r1 := cell_of hr9 1; have r2 := cell_of hr9 2; have r3 := cell_of hr9 3; have r4 := cell_of hr9 4; clear hr9 ho1; first | have HB_ := Lib.hid (row_kept hg1 (alloc2_old wf.drew (.cells #[.int .i64 ta, .int .i64 tl, .int .i64 tt, .int .i64 tal, .int .i64 to_] 38) _) (by simp)) | have HB_ := Lib.hid (row_kept hg1 (alloc2_new wf.drew _ (.cells #[.int .i64 ta, .int .i64 tl, .int .i64 tt, .int .i64 tal, .int .i64 to_] 38)) (by simp)) | skip)
          | (refine step_append_in rfl _ _ 30 rfl wf.heap.size 38 i0 (.agg #[.int .i64 0, .int .i64 0, .int .i64 0, .int .i64 0, .int .i64 0]) 5 40 Try.underlying30 hi0 hz0 hz1 hz2 rfl (by decide) (.slice oa1 j oc1) j (flC Tone.cells (L.take j)) rfl (by first | exact HO1_.out | exact own_kept HO1_.out (grown_alloc (grown_refl _ _) _)) (some ⟨_, 0, none⟩) 1 1 [.int .i64 ta, .int .i64 tl, .int .i64 tt, .int .i64 tal, .int .i64 to_] rfl rfl (news_row (by first | exact heap_alloc_new _ _ | exact HB_.out)) (by simp [Value.oneCell']) (by have := HMN.out; unfold maxLen; omega) (by have := HMN.out; omega) (by first | exact HG1_.out.size | exact Nat.le_trans HG1_.out.size (by simp)) ?_; intro oa2 oc2 w2' ho2 hg2 hb2; have HO2_ := Lib.hid ho2; have HG2_ : Hid (wf.grownBy w2' none) := grown_own (by first | exact HG1_.out | exact grown_alloc HG1_.out _) (by first | exact HO1_.out | exact own_kept HO1_.out (grown_alloc (grown_refl _ _) _)) (Nat.le_refl _) hg2; clear ho2 hg2 hb2)
          | (refine step_append_in rfl _ _ 30 rfl wf.heap.size 38 i0 (.agg #[.int .i64 0, .int .i64 0, .int .i64 0, .int .i64 0, .int .i64 0]) 5 40 Try.underlying30 hi0 hz0 hz1 hz2 rfl (by decide) (.slice oa2 (j + 1) oc2) (j + 1) (flC Tone.cells (L.take j) ++ [.int .i64 ta, .int .i64 tl, .int .i64 tt, .int .i64 tal, .int .i64 to_]) rfl HO2_.out (some ⟨g, j * 5, none⟩) (0) (oc - j) (flC Tone.cells (L.drop j)) rfl HDL.out (news_tones (HT2.out.grown HG2_.out)) (tone_one _) (by have := HMN.out; unfold maxLen; omega) (by have := HMN.out; omega) HG2_.out.size ?_; intro oa3 oc3 w3' ho3 hg3 hb3; have HO3_ := Lib.hid ho3; have HG3_ : Hid (wf.grownBy w3' none) := grown_own HG2_.out HO2_.out (Nat.le_refl _) hg3; clear ho3 hg3 hb3))
        all_goals
          have HFL : Hid (flC Tone.cells (insR L ⟨ta, tl, tt, tal, to_⟩) = flC Tone.cells (L.take j) ++ [.int .i64 ta, .int .i64 tl, .int .i64 tt, .int .i64 tal, .int .i64 to_] ++ flC Tone.cells (L.drop j)) := by
            unfold Hid
            rw [HIL.out, flC_append, List.append_assoc]
            rfl
          have HO4 : Hid (w3'.ownsRow w.heap.size 38 5 (.slice oa3 (j + 1) oc3) (j + 1) (flC Tone.cells (insR L ⟨ta, tl, tt, tal, to_⟩))) := by
            unfold Hid
            rw [HFL.out]
            have h := HO3_.out
            rw [show j + 1 + (0) = j + 1 from by omega] at h
            exact KWith.own_mono h HGW.out.size
          have HLN : Hid ((insR L ⟨ta, tl, tt, tal, to_⟩).length = j + 1) := by unfold Hid; rw [insR_len, HOL.out]
          have hwk : IntKind.i64.wrap ((j : Int) + 1) = (j : Int) + 1 := IntWalk.i64_in _ (by omega)
          have hlen : j + 1 + (0) = j + 1 := by omega
          try simp only [hlen]
          have HLEN := Lib.hid hlen
          clear hlen
          go_wp2_with fail
          refine ⟨?_, by simp [intOf]; omega⟩
          first
            | exact ⟨j + 1, oa3, oc3, by omega, rfl, rfl, by rw [HTK.out]; exact HLN.out, by rw [HTK.out]; exact HO4.out, grown_trans HGW.out HG3_.out⟩
            | (repeat apply Exists.intro
               refine ⟨?_, rfl⟩
               exact ⟨j + 1, oa3, oc3, by omega, rfl, rfl, by rw [HTK.out]; exact HLN.out, by rw [HTK.out]; exact HO4.out, grown_trans HGW.out HG3_.out⟩)
      have hjl : j < k := by omega
      have hjli : (j : Int) < (k : Int) := by omega
      obtain ⟨x, hx⟩ : ∃ x, L[j]? = some x := ⟨L[j]'(by rw [HOL.out]; exact hjl), List.getElem?_eq_getElem _⟩
      obtain ⟨b2, o2, rfl, _, hrg⟩ := sla_at HLT.out hx
      have HDX : Hid (L.drop j = x :: L.drop (j + 1)) := by
        unfold Hid
        obtain ⟨hh, he⟩ := List.getElem?_eq_some_iff.1 hx
        rw [List.drop_eq_getElem_cons hh, he]
      obtain ⟨xa, xl, xt, xal, xo⟩ := x
      have hjb : decide ((j : Int) < (k : Int)) = true := decide_eq_true hjli
      have hjc : decide (j < k) = true := decide_eq_true hjl
      have hne := Mixed.Later.nonempty wy
      have k0 : ∀ n2 : Mixed.Later wy, n2.w.cell? ⟨tb, 0, none⟩ = some (.int .i64 ta) := Mixed.Later.cell (cell_of HRY.out 0)
      have k1 : ∀ n2 : Mixed.Later wy, n2.w.cell? ⟨tb, 1, none⟩ = some (.int .i64 tl) := Mixed.Later.cell (cell_of HRY.out 1)
      have k2 : ∀ n2 : Mixed.Later wy, n2.w.cell? ⟨tb, 2, none⟩ = some (.int .i64 tt) := Mixed.Later.cell (cell_of HRY.out 2)
      have k3 : ∀ n2 : Mixed.Later wy, n2.w.cell? ⟨tb, 3, none⟩ = some (.int .i64 tal) := Mixed.Later.cell (cell_of HRY.out 3)
      have k4 : ∀ n2 : Mixed.Later wy, n2.w.cell? ⟨tb, 4, none⟩ = some (.int .i64 to_) := Mixed.Later.cell (cell_of HRY.out 4)
      have g0 : ∀ n2 : Mixed.Later wy, n2.w.cell? ⟨b2, o2 + j * 5, none⟩ = some (.int .i64 xa) := Mixed.Later.cell (grown_cell HGJ.out (hrg 0 _ rfl) (by simp))
      have g1 : ∀ n2 : Mixed.Later wy, n2.w.cell? ⟨b2, o2 + j * 5 + 1, none⟩ = some (.int .i64 xl) := Mixed.Later.cell (grown_cell HGJ.out (hrg 1 _ rfl) (by simp))
      have g2 : ∀ n2 : Mixed.Later wy, n2.w.cell? ⟨b2, o2 + j * 5 + 2, none⟩ = some (.int .i64 xt) := Mixed.Later.cell (grown_cell HGJ.out (hrg 2 _ rfl) (by simp))
      have g3 : ∀ n2 : Mixed.Later wy, n2.w.cell? ⟨b2, o2 + j * 5 + 3, none⟩ = some (.int .i64 xal) := Mixed.Later.cell (grown_cell HGJ.out (hrg 3 _ rfl) (by simp))
      have g4 : ∀ n2 : Mixed.Later wy, n2.w.cell? ⟨b2, o2 + j * 5 + 4, none⟩ = some (.int .i64 xo) := Mixed.Later.cell (grown_cell HGJ.out (hrg 4 _ rfl) (by simp))
      have LC := Lib.hid (fun w' => less_calls ⟨ta, tl, tt, tal, to_⟩ ⟨xa, xl, xt, xal, xo⟩ w')
      clear hrg hx hjk
      go_upto_region 6 with fail
      refine Mixed.wp_region_mixed (Mixed.late wy) (fun k => k == 10) (by kernel_rfl) (by kernel_rfl) (Mixed.late_of (grown_drew (grown_refl _ _))) ?_
      unfold Mixed.late
      refine Mixed.wpM_quiet rfl rfl rfl ?_; intro Kx hKx; go_big_quiet_op; go_big_quiet_on
      refine Mixed.wpM_quiet rfl rfl rfl ?_; intro Kx hKx; go_big_quiet_op; go_big_quiet_on
      refine Mixed.wpM_quiet rfl rfl rfl ?_; intro Kx hKx; go_big_quiet_op; go_big_quiet_on
      refine Mixed.wpM_quiet rfl rfl rfl ?_; intro Kx hKx; go_big_quiet_op; go_big_quiet_on
      refine Mixed.wpM_quiet rfl rfl rfl ?_; intro Kx hKx; go_big_quiet_op; go_big_quiet_on
      refine Mixed.wpM_quiet rfl rfl rfl ?_; intro Kx hKx; go_big_quiet_op; go_big_quiet_on
      refine Mixed.wpM_quiet rfl rfl rfl ?_; intro Kx hKx; go_big_quiet_op; go_big_quiet_on
      refine Mixed.wpM_quiet rfl rfl rfl ?_; intro Kx hKx; go_big_quiet_op; go_big_quiet_on
      refine Mixed.wpM_quiet rfl rfl rfl ?_; intro Kx hKx; go_big_quiet_op; go_big_quiet_on
      refine Mixed.wpM_quiet rfl rfl rfl ?_; intro Kx hKx; go_big_quiet_op; go_big_quiet_on
      refine Mixed.wpM_call rfl rfl 23 _ (by go_simp; rfl) ?_
      refine (LC.out _).mono ?_
      rintro ez w5 ⟨rfl, hg5⟩
      have HG5 : Hid (wy.grownBy w5 none) := grown_trans (grown_drew (grown_refl _ _)) hg5.out
      refine ⟨_, rfl, ⟨⟨w5, HG5.out⟩, rfl⟩, ?_⟩
      clear hg5
      obtain ⟨LB, hLB⟩ : ∃ LB, lessB ⟨ta, tl, tt, tal, to_⟩ ⟨xa, xl, xt, xal, xo⟩ = LB := ⟨_, rfl⟩
      have HLB := Lib.hid hLB
      simp only [hLB]
      clear hLB
      cases LB with
      | true =>
        have HIN : Hid (insF L ⟨ta, tl, tt, tal, to_⟩ = j) := by
          unfold Hid
          rw [HJ.out, HDX.out]
          unfold insF
          rw [List.takeWhile_cons_of_neg (by rw [HLB.out]; simp)]
          simp
        go_simp
        refine Mixed.wpM_quiet rfl rfl rfl ?_; intro Kx hKx; go_big_quiet_op; go_big_quiet_on
        refine Mixed.wpM_quiet rfl rfl rfl ?_; intro Kx hKx; go_big_quiet_op; go_big_quiet_on
        refine Mixed.wpM_nil ?_
        intro nx hnx
        clear nx hnx k0 k1 k2 k3 k4 g0 g1 g2 g3 g4 hne hjb hjc
        go_wp2_with fail
        obtain ⟨wf, rfl⟩ : ∃ wf : World, wf = w5 := ⟨_, rfl⟩
        have HGF : Hid (w1.grownBy wf none) := grown_trans HGJ.out HG5.out
        have HRF : Hid (wf.heap[tb]? = some (.cells #[.int .i64 ta, .int .i64 tl, .int .i64 tt, .int .i64 tal, .int .i64 to_] 38 (0, 0))) := row_kept HG5.out HRY.out (by simp)
        have hjk9 : j ≤ k := Nat.le_of_lt hjl
        clear HRY HGJ HG5
        have HIL : Hid (insR L ⟨ta, tl, tt, tal, to_⟩ = L.take j ++ ⟨ta, tl, tt, tal, to_⟩ :: L.drop j) := by unfold Hid insR; rw [HIN.out]
        have hML : L.length = k := HOL.out
        have HMB : Hid (k + 1 ≤ n) := by unfold Hid; omega
        have HT1 : Hid (Tos wf (.slice (some (⟨b2, o2, none⟩ : Addr)) j oc) (L.take j)) := (sla_take HLT.out hML hjk9).grown HGF.out
        have HLF : Hid (Tos wf (.slice (some (⟨b2, o2, none⟩ : Addr)) k oc) L) := HLT.out.grown HGF.out
        have HGW : Hid (w.grownBy wf none) := grown_trans HG1.out HGF.out
        have hjmi : (j : Int) ≤ (k : Int) := by omega
        have HJL : Hid ((flC Tone.cells (L.take j)).length = j * 5) := by unfold Hid; rw [flC_len tone_len, List.length_take, Nat.min_eq_left (by omega)]
        have HDL : Hid ((flC Tone.cells (L.drop j)).length = (k - j) * 5) := by unfold Hid; rw [flC_len tone_len, List.length_drop, hML]; try simp
        have HMN : Hid (k ≤ 1099511627776) := by unfold Hid; omega
        have HTBL : Hid (tb < wf.heap.size) := lt_of HRF.out
        have qa0 : ∀ o, (wf.alloc o).drew.cell? ⟨tb, 0, none⟩ = some (.int .i64 ta) := fun o => cell_of (row_kept (grown_alloc_drew wf o) HRF.out (by simp)) 0
        have qa1 : ∀ o, (wf.alloc o).drew.cell? ⟨tb, 1, none⟩ = some (.int .i64 tl) := fun o => cell_of (row_kept (grown_alloc_drew wf o) HRF.out (by simp)) 1
        have qa2 : ∀ o, (wf.alloc o).drew.cell? ⟨tb, 2, none⟩ = some (.int .i64 tt) := fun o => cell_of (row_kept (grown_alloc_drew wf o) HRF.out (by simp)) 2
        have qa3 : ∀ o, (wf.alloc o).drew.cell? ⟨tb, 3, none⟩ = some (.int .i64 tal) := fun o => cell_of (row_kept (grown_alloc_drew wf o) HRF.out (by simp)) 3
        have qa4 : ∀ o, (wf.alloc o).drew.cell? ⟨tb, 4, none⟩ = some (.int .i64 to_) := fun o => cell_of (row_kept (grown_alloc_drew wf o) HRF.out (by simp)) 4
        have qd0 : wf.drew.cell? ⟨tb, 0, none⟩ = some (.int .i64 ta) := cell_of HRF.out 0
        have qd1 : wf.drew.cell? ⟨tb, 1, none⟩ = some (.int .i64 tl) := cell_of HRF.out 1
        have qd2 : wf.drew.cell? ⟨tb, 2, none⟩ = some (.int .i64 tt) := cell_of HRF.out 2
        have qd3 : wf.drew.cell? ⟨tb, 3, none⟩ = some (.int .i64 tal) := cell_of HRF.out 3
        have qd4 : wf.drew.cell? ⟨tb, 4, none⟩ = some (.int .i64 to_) := cell_of HRF.out 4
        have hown := HO1.out.2
        clear hML
        rcases hown with ⟨h, h0⟩ | ⟨g, cap, cur, hv, _, _, hnc, _⟩
        · simp only [Value.slice.injEq] at h
          cases h.1
        simp only [Value.slice.injEq, Option.some.injEq, Addr.mk.injEq] at hv
        obtain ⟨⟨rfl, rfl, _⟩, _, rfl⟩ := hv
        have hMci : (k : Int) ≤ (oc : Int) := by omega
        have hjoc : (j : Int) ≤ (oc : Int) := by omega
        have hjo : ¬ oc = j := by omega
        have HT2 : Hid (Tos wf (.slice (some ⟨b2, j * 5, none⟩) (k - j) (oc - j)) (L.drop j)) := by
          rcases HLF.out with ⟨b9, o9, c9, _, e9, h9⟩ | ⟨_, _, e9, rfl⟩
          · simp only [Value.slice.injEq, Option.some.injEq, Addr.mk.injEq] at e9
            obtain ⟨⟨rfl, rfl, _⟩, e10, rfl⟩ := e9
            refine .inl ⟨b2, j * 5, oc - j, trivial, by rw [List.length_drop, ← e10], fun i y hy => ?_⟩
            have := h9 (j + i) y (by rw [List.getElem?_drop] at hy; exact hy)
            rw [show 0 + (j + i) * 5 = j * 5 + i * 5 from by rw [Nat.add_mul]; omega] at this
            exact this
          · simp at e9
            omega
        have hjo3 : ¬ (oc : Int) = (j : Int) := by omega
        clear HO1 HLT
        go_region_law (first
          | (refine step_append_emp rfl _ _ 30 rfl wf.heap.size 38 i0 (.agg #[.int .i64 0, .int .i64 0, .int .i64 0, .int .i64 0, .int .i64 0]) 5 40 Try.underlying30 hi0 hz0 hz1 hz2 rfl (by decide) _ rfl (by first | exact alloc2_old _ _ _ | exact alloc2_new _ _ _ | exact heap_alloc_new _ _) (by simp) (some ⟨b2, 0, none⟩) j (oc) (flC Tone.cells (L.take j)) rfl HJL.out (news_tones (HT1.out.grown (by repeat (first | exact grown_refl _ _ | refine grown_alloc ?_ _ | refine grown_drew ?_)))) (tone_one _) (by have := HMN.out; unfold maxLen; omega) (by have := HMN.out; omega) (by first | (simp; done) | (simp; omega)) ?_; intro oa1 oc1 w1' ho1 hg1; have HO1_ := Lib.hid ho1; have HG1_ : Hid (wf.grownBy w1' none) := grown_new2 (by repeat (first | exact grown_refl _ _ | refine grown_alloc ?_ _ | refine grown_drew ?_)) hg1 (by simp); have hr9 := row_kept HG1_.out HRF.out (by simp); have r0 := cell_of hr9 0; have r1 := cell_of hr9 1; have r2 := cell_of hr9 2; have r3 := cell_of hr9 3; have r4 := cell_of hr9 4; clear hr9 ho1; first | have HB_ := Lib.hid (row_kept hg1 (alloc2_old wf.drew (.cells #[.int .i64 ta, .int .i64 tl, .int .i64 tt, .int .i64 tal, .int .i64 to_] 38) _) (by simp)) | have HB_ := Lib.hid (row_kept hg1 (alloc2_new wf.drew _ (.cells #[.int .i64 ta, .int .i64 tl, .int .i64 tt, .int .i64 tal, .int .i64 to_] 38)) (by simp)) | skip)
          | (refine step_append_in rfl _ _ 30 rfl wf.heap.size 38 i0 (.agg #[.int .i64 0, .int .i64 0, .int .i64 0, .int .i64 0, .int .i64 0]) 5 40 Try.underlying30 hi0 hz0 hz1 hz2 rfl (by decide) (.slice oa1 j oc1) j (flC Tone.cells (L.take j)) rfl (by first | exact HO1_.out | exact own_kept HO1_.out (grown_alloc (grown_refl _ _) _)) (some ⟨_, 0, none⟩) 1 1 [.int .i64 ta, .int .i64 tl, .int .i64 tt, .int .i64 tal, .int .i64 to_] rfl rfl (news_row (by first | exact heap_alloc_new _ _ | exact HB_.out)) (by simp [Value.oneCell']) (by have := HMN.out; unfold maxLen; omega) (by have := HMN.out; omega) (by first | exact HG1_.out.size | exact Nat.le_trans HG1_.out.size (by simp)) ?_; intro oa2 oc2 w2' ho2 hg2 hb2; have HO2_ := Lib.hid ho2; have HG2_ : Hid (wf.grownBy w2' none) := grown_own (by first | exact HG1_.out | exact grown_alloc HG1_.out _) (by first | exact HO1_.out | exact own_kept HO1_.out (grown_alloc (grown_refl _ _) _)) (Nat.le_refl _) hg2; clear ho2 hg2 hb2)
          | (refine step_append_in rfl _ _ 30 rfl wf.heap.size 38 i0 (.agg #[.int .i64 0, .int .i64 0, .int .i64 0, .int .i64 0, .int .i64 0]) 5 40 Try.underlying30 hi0 hz0 hz1 hz2 rfl (by decide) (.slice oa2 (j + 1) oc2) (j + 1) (flC Tone.cells (L.take j) ++ [.int .i64 ta, .int .i64 tl, .int .i64 tt, .int .i64 tal, .int .i64 to_]) rfl HO2_.out (some ⟨b2, j * 5, none⟩) (k - j) (oc - j) (flC Tone.cells (L.drop j)) rfl HDL.out (news_tones (HT2.out.grown HG2_.out)) (tone_one _) (by have := HMN.out; unfold maxLen; omega) (by have := HMN.out; omega) HG2_.out.size ?_; intro oa3 oc3 w3' ho3 hg3 hb3; have HO3_ := Lib.hid ho3; have HG3_ : Hid (wf.grownBy w3' none) := grown_own HG2_.out HO2_.out (Nat.le_refl _) hg3; clear ho3 hg3 hb3))
        all_goals
          have HFL : Hid (flC Tone.cells (insR L ⟨ta, tl, tt, tal, to_⟩) = flC Tone.cells (L.take j) ++ [.int .i64 ta, .int .i64 tl, .int .i64 tt, .int .i64 tal, .int .i64 to_] ++ flC Tone.cells (L.drop j)) := by
            unfold Hid
            rw [HIL.out, flC_append, List.append_assoc]
            rfl
          have HO4 : Hid (w3'.ownsRow w.heap.size 38 5 (.slice oa3 (k + 1) oc3) (k + 1) (flC Tone.cells (insR L ⟨ta, tl, tt, tal, to_⟩))) := by
            unfold Hid
            rw [HFL.out]
            have h := HO3_.out
            rw [show j + 1 + (k - j) = k + 1 from by omega] at h
            exact KWith.own_mono h HGW.out.size
          have HLN : Hid ((insR L ⟨ta, tl, tt, tal, to_⟩).length = k + 1) := by unfold Hid; rw [insR_len, HOL.out]
          have hwk : IntKind.i64.wrap ((k : Int) + 1) = (k : Int) + 1 := IntWalk.i64_in _ (by omega)
          have hlen : j + 1 + (k - j) = k + 1 := by omega
          try simp only [hlen]
          have HLEN := Lib.hid hlen
          clear hlen
          go_wp2_with fail
          refine ⟨?_, by simp [intOf]; omega⟩
          first
            | exact ⟨k + 1, oa3, oc3, by omega, rfl, rfl, by rw [HTK.out]; exact HLN.out, by rw [HTK.out]; exact HO4.out, grown_trans HGW.out HG3_.out⟩
            | (repeat apply Exists.intro
               refine ⟨?_, rfl⟩
               exact ⟨k + 1, oa3, oc3, by omega, rfl, rfl, by rw [HTK.out]; exact HLN.out, by rw [HTK.out]; exact HO4.out, grown_trans HGW.out HG3_.out⟩)
      | false =>
        have HJ2 : Hid (insF L ⟨ta, tl, tt, tal, to_⟩ = insF (L.drop (j + 1)) ⟨ta, tl, tt, tal, to_⟩ + (j + 1)) := by
          unfold Hid
          rw [HJ.out, HDX.out]
          unfold insF
          rw [List.takeWhile_cons_of_pos (by rw [HLB.out]; rfl), List.length_cons]
          omega
        have hwj : IntKind.i64.wrap ((j : Int) + 1) = (j : Int) + 1 := IntWalk.i64_in _ (by omega)
        go_simp
        refine Mixed.wpM_quiet rfl rfl rfl ?_; intro Kx hKx; go_big_quiet_op; go_big_quiet_on
        refine Mixed.wpM_quiet rfl rfl rfl ?_; intro Kx hKx; go_big_quiet_op; go_big_quiet_on
        refine Mixed.wpM_nil ?_
        intro nx hnx
        clear nx hnx k0 k1 k2 k3 k4 g0 g1 g2 g3 g4 hne hjb hjc
        go_wp2_with fail
        refine ⟨?_, by simp [intOf]; omega⟩
        first
          | exact ⟨j + 1, by omega, rfl, HJ2.out, grown_trans HGJ.out HG5.out⟩
          | (repeat apply Exists.intro
             refine ⟨?_, rfl⟩
             exact ⟨j + 1, by omega, rfl, HJ2.out, grown_trans HGJ.out HG5.out⟩)
end Go.Proofs.Ytdnmimfichijgaa.KOrd
