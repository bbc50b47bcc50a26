/- TakeUndoes: the law's walk. -/
import Derived.Test.YtdnmimfichijgaaKUndP
import Derived.Test.YtdnmimfichijgaaKKeep
import Derived.Test.YtdnmimfichijgaaKOrdL
namespace Go.Proofs.Ytdnmimfichijgaa.KUndL
open Go Go.RowKit Go.Proofs.Ytdnmimfichijgaa.KMod Go.Proofs.Ytdnmimfichijgaa.KTk Go.Proofs.Ytdnmimfichijgaa.KRead Go.Proofs.Ytdnmimfichijgaa.KCells Go.Proofs.Ytdnmimfichijgaa.KClone Go.Proofs.Ytdnmimfichijgaa.KTake Go.Proofs.Ytdnmimfichijgaa.KAlive Go.Proofs.Ytdnmimfichijgaa.KSame Go.Proofs.Ytdnmimfichijgaa.KJ Go.Proofs.Ytdnmimfichijgaa.KUnp Go.Proofs.Ytdnmimfichijgaa.KKeep Go.Proofs.Ytdnmimfichijgaa.KStep Go.Proofs.Ytdnmimfichijgaa.KOrd Go.Proofs.Ytdnmimfichijgaa.KOrdP Go.Proofs.Ytdnmimfichijgaa.KUndP Go.Proofs.Ytdnmimfichijgaa.Hp Go.Proofs.Ytdnmimfichijgaa.Rd Go.Proofs.Ytdnmimfichijgaa.Opn
set_option linter.unusedVariables false
set_option linter.unusedSimpArgs false

/-- The four steps behind, as they lie. -/
abbrev bL (D N ta tl tt tal to_ : Int) : List Value := [.bool true, .int .i64 0, .int .i64 0, .int .i64 0, .int .i64 0, .int .i64 0, .int .i64 0, .int .i64 0, .int .i64 (-1), .int .i64 0, .int .i64 0, .bool false, .int .i64 D, .int .i64 N, .int .i64 ta, .int .i64 tl, .int .i64 tt, .int .i64 tal, .int .i64 to_, .int .i64 0, .int .i64 0, .int .i64 0, .bool false, .int .i64 3, .int .i64 0, .int .i64 0, .int .i64 0, .int .i64 0, .int .i64 0, .int .i64 0, .int .i64 0, .int .i64 0, .int .i64 0, .bool false, .int .i64 4, .int .i64 0, .int .i64 0, .int .i64 0, .int .i64 0, .int .i64 0, .int .i64 0, .int .i64 0, .int .i64 0, .int .i64 0]
abbrev bO (D N ta tl tt tal to_ : Int) : Obj := .cells (bL D N ta tl tt tal to_).toArray 44 (0, 0)

theorem grown_sz {a b : World} (h : a.grownBy b none) : a.heap.size ≤ b.heap.size := h.size
theorem steps_own {w : World} {B : Nat} {ao : Option Addr} {n c : Nat} {ps : List Stp} (hn : ps.length = n) (h : w.ownsRow B 44 11 (.slice ao n c) n (flC stC ps)) : SlA 11 stC w AnyB (.slice ao n c) ps := by
  subst hn
  exact sla_of_own st_len h AnyB (fun _ _ => trivial)
theorem news_steps {w : World} {ao : Option Addr} {n c : Nat} {ps : List Stp} (h : SlA 11 stC w AnyB (.slice ao n c) ps) : ∀ j u, (flC stC ps)[j]? = some u → ∃ b off, ao = some ⟨b, off, none⟩ ∧ w.cell? ⟨b, off + j, none⟩ = some u := by
  intro j u hu
  obtain ⟨e, he, hu2⟩ := flC_split st_len (by decide) hu
  obtain ⟨b, off, rfl, _, hrg⟩ := sla_at h he
  refine ⟨b, off, rfl, ?_⟩
  have := hrg (j % 11) u hu2
  rw [show off + j = off + j / 11 * 11 + j % 11 from by omega]
  exact this
theorem steps_one (ps : List Stp) : ∀ u ∈ flC stC ps, u.oneCell' = true := by
  intro u hu
  simp only [flC, List.mem_flatMap] at hu
  obtain ⟨e, _, hu⟩ := hu
  simp only [stC, List.mem_cons, List.not_mem_nil, or_false] at hu
  rcases hu with rfl | rfl | rfl | rfl | rfl | rfl | rfl | rfl | rfl | rfl | rfl <;> rfl

theorem run_small (ps : List Stp) : ∀ (t : Tk) (d : Dk), GoodT t → ∀ x ∈ (runK t d ps).1, x.ts.length ≤ 1024 := by
  induction ps with
  | nil => intro t d _ x hx; simp [runK] at hx
  | cons p r ih =>
    intro t d hg x hx
    have hst : GoodT (stepK t d p).1 ∧ (stepK t d p).2.2.ts.length ≤ 1024 := by
      have tn : ∀ (t2 : Tk) (y : Int), GoodT t2 → (tonesT t2 ⟨y, 0, []⟩).ts.length ≤ 1024 := fun t2 y h => by
        unfold tonesT
        split
        · simp
        · exact h.s.big _ h.s.now_mem
      unfold stepK
      simp only
      obtain ⟨d2, hd2⟩ : ∃ d2 : Dk, (if 0 < p.poke ∧ p.poke ≤ (d.words.length : Int) then (⟨d.words.set (p.poke - 1).toNat p.word, if p.power ≠ 0 then IntKind.i64.wrap (p.power - 1) else d.left⟩ : Dk) else ⟨d.words, if p.power ≠ 0 then IntKind.i64.wrap (p.power - 1) else d.left⟩) = d2 := ⟨_, rfl⟩
      rw [hd2]
      obtain ⟨t1, ht1⟩ : ∃ t1, (if p.open_ = true then openT d2.words else t) = t1 := ⟨_, rfl⟩
      rw [ht1]
      have hg1 : GoodT t1 := by
        rw [← ht1]
        split
        · exact openT_good _
        · exact hg
      by_cases hd : p.e.do_ ≠ 0
      · rw [if_pos hd]
        exact ⟨(do_good hg1 d2 p.e).1, tn _ _ (do_good hg1 d2 p.e).1⟩
      · rw [if_neg hd]
        exact ⟨hg1, tn _ _ hg1⟩
    have e : (runK t d (p :: r)).1 = (stepK t d p).2.2 :: (runK (stepK t d p).1 (stepK t d p).2.1 r).1 := rfl
    rw [e] at hx
    rcases List.mem_cons.1 hx with rfl | hx
    · exact hst.2
    · exact ih _ _ hst.1 x hx

theorem ils_w (m : Nat) (W : List Int) (hW : List.replicate m 0 = W) {w' : World} {B g : Nat} (h : w'.ownsRow B 2 1 (.slice (some ⟨g, 0, none⟩) m m) m (madeCells (Value.cells (.int .i64 0)) (m * 1)).toList) : Ils w' (.slice (some ⟨g, 0, none⟩) m m) W := by
  rw [← hW]
  exact ils_noughts h

set_option maxHeartbeats 8000000 in
set_option maxRecDepth 100000 in
theorem law (sa : Option Addr) (sc : Nat) (ps : List Stp) (e : Ed) (w : World) (hp : SlA 11 stC w AnyB (.slice sa ps.length sc) ps) (hpb : ps.length * 88 ≤ 140737488355328) :
    Calls Try.prog 4 #[.slice sa ps.length sc, .agg #[.int .i64 e.do_, .int .i64 e.n, .int .i64 e.t.at_, .int .i64 e.t.long, .int .i64 e.t.lt, .int .i64 e.t.al, .int .i64 e.t.oc]] w fun r w' => r = .returned (.bool true) ∧ Hid (w.grownBy w' none) := by
  have AC := Lib.hid (fun w' => alive_calls w')
  have UC0 := Lib.hid (fun (w' : World) (hg : w.grownBy w' none) => unpoked_calls sa sc ps w' (hp.grown hg) hpb)
  obtain ⟨PS, hPS⟩ : ∃ PS, ps.map noPoke = PS := ⟨_, rfl⟩
  have HPK : Hid (∀ p ∈ PS, p.poke = 0) := by
    intro p hpp
    rw [← hPS, List.mem_map] at hpp
    obtain ⟨q, _, rfl⟩ := hpp
    rfl
  have hPL : PS.length = ps.length := by rw [← hPS]; simp
  rw [hPS] at UC0
  obtain ⟨n, hn⟩ : ∃ n, ps.length = n := ⟨_, rfl⟩
  rw [hn] at UC0 hPL hpb ⊢
  have HPL := Lib.hid hPL
  clear hp hPS hn hPL
  have HPSL : Hid ((flC stC PS).length = n * 11) := by unfold Hid; rw [flC_len st_len, HPL.out]
  obtain ⟨i0, hi0, hz0, hz1, hz2⟩ := info_parts info2
  obtain ⟨i3, hi3, hy0, hy1, hy2⟩ := info_parts info44
  obtain ⟨D, N, ⟨ta, tl, tt, tal, to_⟩⟩ := e
  simp only
  have hpn : (n : Int) ≤ 1599289640401 := by omega
  obtain ⟨eb, heb⟩ : ∃ eb, w.heap.size = eb := ⟨_, rfl⟩
  have HEB := Lib.hid heb
  clear heb
  go_enter Try.func4, Try.ntmps4
  go_upto_region 1 with fail
  simp only [HEB.out]
  obtain ⟨w1, hw1⟩ : ∃ w1, w.alloc (.cells #[.int .i64 D, .int .i64 N, .int .i64 ta, .int .i64 tl, .int .i64 tt, .int .i64 tal, .int .i64 to_] 40) = w1 := ⟨_, rfl⟩
  have HG1 : Hid (w.grownBy w1 none) := by unfold Hid; rw [← hw1]; exact grown_alloc (grown_refl _ _) _
  have HR1 : Hid (w1.heap[eb]? = some (.cells #[.int .i64 D, .int .i64 N, .int .i64 ta, .int .i64 tl, .int .i64 tt, .int .i64 tal, .int .i64 to_] 40 (0, 0))) := by unfold Hid; rw [← hw1, ← HEB.out]; exact heap_alloc_new _ _
  simp only [hw1]
  clear hw1
  go_upto_region 3 with (go_at_call 10; refine (AC.out _).mono ?_; rintro ez w2 ⟨rfl, hg2⟩)
  have HG2 : Hid (w.grownBy w2 none) := grown_trans HG1.out hg2.out
  have hr2 := row_kept hg2.out HR1.out (by simp)
  have HRF0 := Lib.hid hr2
  have b0 := cell_of hr2 0
  clear hg2 hr2
  by_cases hbig : 200 < n
  · have h1 : (200 : Int) < (n : Int) := by omega
    clear hbig
    go_wp2_with fail
    go_ret
    exact ⟨rfl, HG2.out⟩
  have h1 : ¬ (200 : Int) < (n : Int) := by omega
  have h1b : decide ((200 : Int) < (n : Int)) = false := decide_eq_false h1
  by_cases hD : D = 1 ∨ D = 2
  rotate_left
  · have hd1 : ¬ D = 1 := fun h => hD (.inl h)
    have hd2 : ¬ D = 2 := fun h => hD (.inr h)
    have hd1b : (D != 1) = true := by simp [hd1]
    have hd2b : (D != 2) = true := by simp [hd2]
    clear hD
    go_wp2_with fail
    go_ret
    exact ⟨rfl, HG2.out⟩
  have HD := Lib.hid hD
  go_cut [24] from 12 (fun c wx => c = .bool false ∧ w2 = wx)
  case first =>
    clear hbig
    rcases hD with h | h
    · subst h
      go_wp2_with fail
      go_meet
      exact ⟨rfl, rfl⟩
    · subst h
      go_wp2_with fail
      go_meet
      exact ⟨rfl, rfl⟩
  obtain ⟨rfl, hwc⟩ := hcut
  subst hwc
  obtain ⟨wf, hwf⟩ : ∃ wf : World, wf = w2 := ⟨_, rfl⟩
  subst hwf
  have HRF := HRF0
  have UC := Lib.hid (fun (w' : World) (hg : wf.grownBy w' none) => UC0.out w' (grown_trans HG2.out hg))
  have hnn : n ≤ 200 := by omega
  clear hbig hD h1 h1b UC0 b0 HRF0
  have hc := fun i => cell_of HRF.out i
  have qd0 : wf.drew.cell? ⟨eb, 0, none⟩ = some (.int .i64 D) := hc 0
  have qd1 : wf.drew.cell? ⟨eb, 1, none⟩ = some (.int .i64 N) := hc 1
  have qd2 : wf.drew.cell? ⟨eb, 2, none⟩ = some (.int .i64 ta) := hc 2
  have qd3 : wf.drew.cell? ⟨eb, 3, none⟩ = some (.int .i64 tl) := hc 3
  have qd4 : wf.drew.cell? ⟨eb, 4, none⟩ = some (.int .i64 tt) := hc 4
  have qd5 : wf.drew.cell? ⟨eb, 5, none⟩ = some (.int .i64 tal) := hc 5
  have qd6 : wf.drew.cell? ⟨eb, 6, none⟩ = some (.int .i64 to_) := hc 6
  have hca := fun o i => cell_of (row_kept (grown_alloc_drew wf o) HRF.out (by simp)) i
  have qa0 : ∀ o, (wf.alloc o).drew.cell? ⟨eb, 0, none⟩ = some (.int .i64 D) := fun o => hca o 0
  have qa1 : ∀ o, (wf.alloc o).drew.cell? ⟨eb, 1, none⟩ = some (.int .i64 N) := fun o => hca o 1
  have qa2 : ∀ o, (wf.alloc o).drew.cell? ⟨eb, 2, none⟩ = some (.int .i64 ta) := fun o => hca o 2
  have qa3 : ∀ o, (wf.alloc o).drew.cell? ⟨eb, 3, none⟩ = some (.int .i64 tl) := fun o => hca o 3
  have qa4 : ∀ o, (wf.alloc o).drew.cell? ⟨eb, 4, none⟩ = some (.int .i64 tt) := fun o => hca o 4
  have qa5 : ∀ o, (wf.alloc o).drew.cell? ⟨eb, 5, none⟩ = some (.int .i64 tal) := fun o => hca o 5
  have qa6 : ∀ o, (wf.alloc o).drew.cell? ⟨eb, 6, none⟩ = some (.int .i64 to_) := fun o => hca o 6
  clear hc hca
  go_upto_region 5 with fail
  go_cut [5] from 25 (fun v wx => ∃ oa oc, v = .slice oa (n + 4) oc ∧ Hid (wx.ownsRow wf.heap.size 44 11 (.slice oa (n + 4) oc) (n + 4) (flC stC PS ++ (bL D N ta tl tt tal to_))) ∧ Hid (wf.grownBy wx none))
  case first =>
    go_region_law (first
      | (refine step_append_emp rfl _ _ 23 rfl wf.heap.size 44 i3 (.agg #[.bool false, .int .i64 0, .int .i64 0, .int .i64 0, .int .i64 0, .int .i64 0, .int .i64 0, .int .i64 0, .int .i64 0, .int .i64 0, .int .i64 0]) 11 88 Try.underlying23 hi3 hy0 hy1 hy2 rfl (by decide) _ rfl (by first | with_reducible exact HA_.out | exact row_kept (grown_alloc (grown_refl wu none) _) HA_.out (by simp) | exact alloc2_old _ _ _ | exact alloc2_new _ _ _ | exact heap_alloc_new _ _) (by first | (simp; done) | (simp; omega) | (have := HGU_.out.size; simp; omega)) ua n uc (flC stC PS) rfl HPSL.out (news_steps (HU_.out _ (by repeat (first | exact grown_refl _ _ | refine grown_alloc ?_ _ | refine grown_drew ?_)))) (steps_one _) (by unfold maxLen; omega) (by omega) (grown_sz (by repeat (first | with_reducible exact HGU_.out | refine grown_alloc ?_ _ | refine grown_drew ?_))) ?_; intro oa1 oc1 w1' ho1 hg1; have HO1_ := Lib.hid ho1; have HG1_ : Hid (wf.grownBy w1' none) := grown_new2 (by repeat (first | with_reducible exact HGU_.out | refine grown_alloc ?_ _ | refine grown_drew ?_)) hg1 (by first | (simp; done) | (simp; omega) | (have := HGU_.out.size; simp; omega)); (first | have HB2_ := Lib.hid (row_kept hg1 HB_.out (by intro hh; injection hh with hh; first | omega | (have := lt_of HB_.out; omega) | (have := lt_of HB_.out; have := HGU_.out.size; simp at *; omega))) | have HB2_ := Lib.hid (row_kept hg1 (row_kept (grown_alloc (grown_refl _ none) _) HB_.out (by simp)) (by intro hh; injection hh with hh; first | omega | (have := lt_of HB_.out; omega) | (have := lt_of HB_.out; have := HGU_.out.size; simp at *; omega))) | have HB2_ := Lib.hid (row_kept hg1 (alloc2_old wu (bO D N ta tl tt tal to_) _) (by simp)) | have HB2_ := Lib.hid (row_kept hg1 (alloc2_new wu _ (bO D N ta tl tt tal to_)) (by simp)) | have HB2_ := Lib.hid (row_kept hg1 (heap_alloc_new wu (bO D N ta tl tt tal to_)) (by intro hh; injection hh with hh; have := lt_of HA_.out; omega)) | skip); have hr9 := row_kept HG1_.out HRF.out (by simp); have r0 : w1'.cell? ⟨eb, 0, none⟩ = some (.int .i64 D) := cell_of hr9 0; have r1 : w1'.cell? ⟨eb, 1, none⟩ = some (.int .i64 N) := cell_of hr9 1; have r2 : w1'.cell? ⟨eb, 2, none⟩ = some (.int .i64 ta) := cell_of hr9 2; have r3 : w1'.cell? ⟨eb, 3, none⟩ = some (.int .i64 tl) := cell_of hr9 3; have r4 : w1'.cell? ⟨eb, 4, none⟩ = some (.int .i64 tt) := cell_of hr9 4; have r5 : w1'.cell? ⟨eb, 5, none⟩ = some (.int .i64 tal) := cell_of hr9 5; have r6 : w1'.cell? ⟨eb, 6, none⟩ = some (.int .i64 to_) := cell_of hr9 6; have hrg9 := fun o => row_kept (grown_trans HG1_.out (grown_alloc (grown_refl _ none) o)) HRF.out (by simp); have ra0 : ∀ o, (w1'.alloc o).cell? ⟨eb, 0, none⟩ = some (.int .i64 D) := fun o => cell_of (hrg9 o) 0; have ra1 : ∀ o, (w1'.alloc o).cell? ⟨eb, 1, none⟩ = some (.int .i64 N) := fun o => cell_of (hrg9 o) 1; have ra2 : ∀ o, (w1'.alloc o).cell? ⟨eb, 2, none⟩ = some (.int .i64 ta) := fun o => cell_of (hrg9 o) 2; have ra3 : ∀ o, (w1'.alloc o).cell? ⟨eb, 3, none⟩ = some (.int .i64 tl) := fun o => cell_of (hrg9 o) 3; have ra4 : ∀ o, (w1'.alloc o).cell? ⟨eb, 4, none⟩ = some (.int .i64 tt) := fun o => cell_of (hrg9 o) 4; have ra5 : ∀ o, (w1'.alloc o).cell? ⟨eb, 5, none⟩ = some (.int .i64 tal) := fun o => cell_of (hrg9 o) 5; have ra6 : ∀ o, (w1'.alloc o).cell? ⟨eb, 6, none⟩ = some (.int .i64 to_) := fun o => cell_of (hrg9 o) 6; clear hrg9; clear hr9 ho1 hg1)
      | (refine step_append_in rfl _ _ 23 rfl wf.heap.size 44 i3 (.agg #[.bool false, .int .i64 0, .int .i64 0, .int .i64 0, .int .i64 0, .int .i64 0, .int .i64 0, .int .i64 0, .int .i64 0, .int .i64 0, .int .i64 0]) 11 88 Try.underlying23 hi3 hy0 hy1 hy2 rfl (by decide) (.slice oa1 n oc1) n (flC stC PS) rfl (by first | with_reducible exact HO1_.out | exact own_kept HO1_.out (grown_alloc (grown_refl _ _) _)) (some ⟨_, 0, none⟩) 4 4 (bL D N ta tl tt tal to_) rfl rfl (news_row (by first | exact HB2_.out | exact heap_alloc_new _ _)) (by simp [Value.oneCell']) (by unfold maxLen; omega) (by omega) (by first | exact HG1_.out.size | exact Nat.le_trans HG1_.out.size (by simp)) ?_; intro oa2 oc2 w2' ho2 hg2 hb2; have HO2_ := Lib.hid ho2; have HG2_ : Hid (wf.grownBy w2' none) := grown_own (by first | with_reducible exact HG1_.out | exact grown_alloc HG1_.out _) (by first | with_reducible exact HO1_.out | exact own_kept HO1_.out (grown_alloc (grown_refl _ _) _)) (Nat.le_refl _) hg2; clear ho2 hg2 hb2)
      | (go_simp; go_at_call 11; refine (UC.out _ (by repeat (first | exact grown_refl _ _ | refine grown_alloc ?_ _ | refine grown_drew ?_))).mono ?_; rintro ez wu ⟨vu, rfl, hou, hgu⟩; obtain ⟨ua, uc, rfl⟩ := own_slice hou.out; have HU_ := Lib.hid (fun (w' : World) (hg : wu.grownBy w' none) => steps_own HPL.out (own_kept hou.out hg)); have HGU_ : Hid (wf.grownBy wu none) := grown_trans (by repeat (first | exact grown_refl _ _ | refine grown_alloc ?_ _ | refine grown_drew ?_)) hgu.out; (first | have HA_ : Hid (wu.heap[wf.heap.size]? = some (.cells #[] 44 (0, 0))) := row_kept hgu.out (alloc2_old wf.drew (.cells #[] 44) _) (by simp) | have HA_ : Hid (wu.heap[wf.heap.size + 1]? = some (.cells #[] 44 (0, 0))) := row_kept hgu.out (alloc2_new wf.drew _ (.cells #[] 44)) (by simp) | have HA_ : Hid (wu.heap[wf.heap.size]? = some (.cells #[] 44 (0, 0))) := row_kept hgu.out (heap_alloc_new wf.drew (.cells #[] 44)) (by simp) | skip); (first | have HB_ : Hid (wu.heap[wf.heap.size]? = some (bO D N ta tl tt tal to_)) := row_kept hgu.out (alloc2_old wf.drew (bO D N ta tl tt tal to_) _) (by simp) | have HB_ : Hid (wu.heap[wf.heap.size + 1]? = some (bO D N ta tl tt tal to_)) := row_kept hgu.out (alloc2_new wf.drew _ (bO D N ta tl tt tal to_)) (by simp) | have HB_ : Hid (wu.heap[wf.heap.size]? = some (bO D N ta tl tt tal to_)) := row_kept hgu.out (heap_alloc_new wf.drew (bO D N ta tl tt tal to_)) (by simp) | skip); have hr9 := row_kept HGU_.out HRF.out (by simp); have r0 : wu.cell? ⟨eb, 0, none⟩ = some (.int .i64 D) := cell_of hr9 0; have r1 : wu.cell? ⟨eb, 1, none⟩ = some (.int .i64 N) := cell_of hr9 1; have r2 : wu.cell? ⟨eb, 2, none⟩ = some (.int .i64 ta) := cell_of hr9 2; have r3 : wu.cell? ⟨eb, 3, none⟩ = some (.int .i64 tl) := cell_of hr9 3; have r4 : wu.cell? ⟨eb, 4, none⟩ = some (.int .i64 tt) := cell_of hr9 4; have r5 : wu.cell? ⟨eb, 5, none⟩ = some (.int .i64 tal) := cell_of hr9 5; have r6 : wu.cell? ⟨eb, 6, none⟩ = some (.int .i64 to_) := cell_of hr9 6; have hrg9 := fun o => row_kept (grown_trans HGU_.out (grown_alloc (grown_refl _ none) o)) HRF.out (by simp); have ra0 : ∀ o, (wu.alloc o).cell? ⟨eb, 0, none⟩ = some (.int .i64 D) := fun o => cell_of (hrg9 o) 0; have ra1 : ∀ o, (wu.alloc o).cell? ⟨eb, 1, none⟩ = some (.int .i64 N) := fun o => cell_of (hrg9 o) 1; have ra2 : ∀ o, (wu.alloc o).cell? ⟨eb, 2, none⟩ = some (.int .i64 ta) := fun o => cell_of (hrg9 o) 2; have ra3 : ∀ o, (wu.alloc o).cell? ⟨eb, 3, none⟩ = some (.int .i64 tl) := fun o => cell_of (hrg9 o) 3; have ra4 : ∀ o, (wu.alloc o).cell? ⟨eb, 4, none⟩ = some (.int .i64 tt) := fun o => cell_of (hrg9 o) 4; have ra5 : ∀ o, (wu.alloc o).cell? ⟨eb, 5, none⟩ = some (.int .i64 tal) := fun o => cell_of (hrg9 o) 5; have ra6 : ∀ o, (wu.alloc o).cell? ⟨eb, 6, none⟩ = some (.int .i64 to_) := fun o => cell_of (hrg9 o) 6; clear hrg9; clear hr9 hou hgu))
    all_goals
      go_wp2_with fail
      go_meet
      exact ⟨oa2, oc2, rfl, HO2_.out, HG2_.out⟩
  obtain ⟨oa, oc, rfl, HO, HG⟩ := hcut
  obtain ⟨wz, hwz⟩ : ∃ wz : World, wz = wc := ⟨_, rfl⟩
  subst hwz
  obtain ⟨W, hW⟩ : ∃ W, List.replicate 1760 (0 : Int) = W := ⟨_, rfl⟩
  have hWl : W.length = 1760 := by rw [← hW]; exact List.length_replicate
  have hfz : Fits (openT W) W := by rw [← hW]; exact fits_openT (fits_zero 1760)
  have hfe : (openT W).edits ≤ 0 := by rw [← hW, fits_open (fits_zero 1760)]; exact Nat.le_refl _
  have HIL := Lib.hid (fun (w' : World) (B g : Nat) h => ils_w 1760 W hW (w' := w') (B := B) (g := g) h)
  obtain ⟨x0, x1, x2, x3, hx0, hx1, hx2, hx3, hxA, hxB⟩ := und_all W hWl hfz hfe PS HPK.out (by rw [HPL.out]; exact hnn) ⟨D, N, ⟨ta, tl, tt, tal, to_⟩⟩ HD.out
  have hXL : (runK (openT W) ⟨W, -1⟩ (PS ++ tailS ⟨D, N, ⟨ta, tl, tt, tal, to_⟩⟩)).1.length = n + 4 := by rw [run_len, List.length_append, HPL.out]; rfl
  have TC : Hid (∀ (w' : World) (g : Nat) (v : Value) (B : Nat), Ils w' (.slice (some ⟨g, 0, none⟩) 1760 1760) W → w'.ownsRow B 44 11 v (n + 4) (flC stC PS ++ (bL D N ta tl tt tal to_)) → Calls Try.prog 7 #[.slice (some ⟨g, 0, none⟩) 1760 1760, v] w' fun r w2 => ∃ la lc ao n2 c, r = .returned (.tuple #[.slice la (n + 4) lc, .slice ao n2 c, .bool true]) ∧ Hid (TnsR w2 (.slice la (n + 4) lc) (runK (openT W) ⟨W, -1⟩ (PS ++ tailS ⟨D, N, ⟨ta, tl, tt, tal, to_⟩⟩)).1) ∧ Hid (w'.grownBy w2 none)) := by
    intro w' g v B hi ho
    obtain ⟨oa9, oc9, rfl⟩ := own_slice ho
    have hpl9 : (PS ++ tailS ⟨D, N, ⟨ta, tl, tt, tal, to_⟩⟩).length = n + 4 := by rw [List.length_append, HPL.out]; rfl
    have hs : SlA 11 stC w' AnyB (.slice oa9 (PS ++ tailS ⟨D, N, ⟨ta, tl, tt, tal, to_⟩⟩).length oc9) (PS ++ tailS ⟨D, N, ⟨ta, tl, tt, tal, to_⟩⟩) := by
      have h9 : w'.ownsRow B 44 11 (.slice oa9 (n + 4) oc9) (PS ++ tailS ⟨D, N, ⟨ta, tl, tt, tal, to_⟩⟩).length (flC stC (PS ++ tailS ⟨D, N, ⟨ta, tl, tt, tal, to_⟩⟩)) := by
        rw [hpl9, flC_append]
        exact ho
      have h := sla_of_own st_len h9 AnyB (fun _ _ => trivial)
      rw [hpl9]
      exact h
    have h := take_tns (some ⟨g, 0, none⟩) oa9 1760 oc9 W (PS ++ tailS ⟨D, N, ⟨ta, tl, tt, tal, to_⟩⟩) w' (by rw [hWl]; exact hi) hs (by omega) (by rw [hpl9]; omega)
    rw [hXL, hpl9, hWl] at h
    refine h.mono ?_
    rintro r w2 ⟨la, lc, ao, n2, c, rfl, h1, h2, h3⟩
    exact ⟨la, lc, ao, n2, c, rfl, h1, h3⟩
  obtain ⟨XS, hXS⟩ : ∃ XS, (runK (openT W) ⟨W, -1⟩ (PS ++ tailS ⟨D, N, ⟨ta, tl, tt, tal, to_⟩⟩)).1 = XS := ⟨_, rfl⟩
  have HSM := Lib.hid (run_small (PS ++ tailS ⟨D, N, ⟨ta, tl, tt, tal, to_⟩⟩) (openT W) ⟨W, -1⟩ (openT_good W))
  rw [hXS] at hx0 hx1 hx2 hx3 hXL HSM
  simp only [hXS] at TC
  rw [HPL.out] at hx0 hx1 hx2 hx3
  have HGZ : Hid (w.grownBy wz none) := grown_trans HG2.out HG.out
  obtain ⟨m, hm⟩ : ∃ m, n + 4 = m := ⟨_, rfl⟩
  obtain ⟨n1, hn1⟩ : ∃ n1, n + 1 = n1 := ⟨_, rfl⟩
  obtain ⟨n2, hn2⟩ : ∃ n2, n + 2 = n2 := ⟨_, rfl⟩
  obtain ⟨n3, hn3⟩ : ∃ n3, n + 3 = n3 := ⟨_, rfl⟩
  have hw1 : IntKind.i64.wrap ((n : Int) + 1) = (n1 : Int) := by rw [IntWalk.i64_in _ (by omega)]; omega
  have hw2 : IntKind.i64.wrap ((n : Int) + 2) = (n2 : Int) := by rw [IntWalk.i64_in _ (by omega)]; omega
  have hw3 : IntKind.i64.wrap ((n : Int) + 3) = (n3 : Int) := by rw [IntWalk.i64_in _ (by omega)]; omega
  have hb0 : (n : Int) < (m : Int) := by omega
  have hb1 : (n1 : Int) < (m : Int) := by omega
  have hb2 : (n2 : Int) < (m : Int) := by omega
  have hb3 : (n3 : Int) < (m : Int) := by omega
  simp only [hm] at HO TC hXL ⊢
  rw [hn1] at hx1
  rw [hn2] at hx2
  rw [hn3] at hx3
  clear hm hn1 hn2 hn3
  clear hXS hW hWl hfz hfe HRF UC qd0 qd1 qd2 qd3 qd4 qd5 qd6 qa0 qa1 qa2 qa3 qa4 qa5 qa6 HEB HG1 HR1 HG2 HG
  go_upto_region 7 with (first
    | (at_make; refine wpList_make_full _ rfl _ _ 22 rfl wz.heap.size 2 i0 (.int .i64 0) 1 Try.underlying22 hi0 hz0 hz1 _ _ _ _ 1760 rfl rfl rfl rfl (by rw [hz2]; decide) (by unfold maxLen; decide) (Nat.le_refl _) ?_; intro w3 hown3 hg3; have HI3 := Lib.hid (HIL.out _ _ _ hown3); have HG3 : Hid (w.grownBy w3 none) := grown_trans HGZ.out hg3; have HO3 := Lib.hid (own_kept HO.out hg3); clear hown3 hg3)
    | (go_at_call 7; refine (TC.out _ _ _ _ HI3.out HO3.out).mono ?_; rintro ez w4 ⟨la, lc, ao, n2, c, rfl, ht4, hg4⟩; have HT4 := Lib.hid ht4.out; have HG4 : Hid (w.grownBy w4 none) := grown_trans HG3.out hg4.out; clear ht4 hg4))
  obtain ⟨xb, xo, a0, c0, rfl, y00, y01, y02, t0⟩ := tns_at HT4.out hx0
  obtain ⟨xb1, xo1, a1, c1, e1, y10, y11, y12, t1⟩ := tns_at HT4.out hx1
  obtain ⟨xb2, xo2, a2, c2, e2, y20, y21, y22, t2⟩ := tns_at HT4.out hx2
  obtain ⟨xb3, xo3, a3, c3, e3, y30, y31, y32, t3⟩ := tns_at HT4.out hx3
  injection e1 with e1
  injection e2 with e2
  injection e3 with e3
  injection e1 with e1 e1'
  injection e2 with e2 e2'
  injection e3 with e3 e3'
  subst e1 e1' e2 e2' e3 e3'
  obtain ⟨r0, q0, s0⟩ := x0
  obtain ⟨r1, q1, s1⟩ := x1
  obtain ⟨r2, q2, s2⟩ := x2
  obtain ⟨r3, q3, s3⟩ := x3
  simp only at y00 y02 y10 y12 y20 y22 y30 y32 t0 t1 t2 t3 hxA hxB
  have SQ : Hid (∀ (aa bb : Option Addr) (ca cb na nb k : Nat) (es fs : List Tone), es = fs → es.length = na → fs.length = nb → Tos w4 (.slice aa na ca) es → Tos w4 (.slice bb nb cb) fs → es.length ≤ 1099511627776 → Calls Try.prog 9 #[.slice aa na ca, .slice bb nb cb] (w4.drewN k) fun e w' => e = .returned (.bool true) ∧ ∃ m, w' = (w4.drewN k).drewN m) := by
    intro aa bb ca cb na nb k es fs h1 h2 h3 h4 h5 h6
    subst h1
    subst h2
    subst h3
    exact same_quiet aa bb ca cb es _ (h4.grown (grown_drewN (grown_refl _ _) _)) (h5.grown (grown_drewN (grown_refl _ _) _)) h6
  have hm0 := HSM.out _ (List.mem_of_getElem? hx0)
  have hm1 := HSM.out _ (List.mem_of_getElem? hx1)
  have hm2 := HSM.out _ (List.mem_of_getElem? hx2)
  have hm3 := HSM.out _ (List.mem_of_getElem? hx3)
  simp only at hm0 hm1 hm2 hm3
  obtain ⟨l0, hl0⟩ : ∃ l, s0.length = l := ⟨_, rfl⟩
  obtain ⟨l1, hl1⟩ : ∃ l, s1.length = l := ⟨_, rfl⟩
  obtain ⟨l2, hl2⟩ : ∃ l, s2.length = l := ⟨_, rfl⟩
  obtain ⟨l3, hl3⟩ : ∃ l, s3.length = l := ⟨_, rfl⟩
  have S10 := Lib.hid (fun (h : s1 = s0) (k : Nat) => SQ.out a0 a1 c0 c1 s0.length s1.length k s0 s1 h.symm rfl rfl t0 t1 (by omega))
  have S20 := Lib.hid (fun (h : s2 = s0) (k : Nat) => SQ.out a0 a2 c0 c2 s0.length s2.length k s0 s2 h.symm rfl rfl t0 t2 (by omega))
  have S31 := Lib.hid (fun (h : s3 = s1) (k : Nat) => SQ.out a1 a3 c1 c3 s1.length s3.length k s1 s3 h.symm rfl rfl t1 t3 (by omega))
  rw [hl0] at y02
  rw [hl1] at y12
  rw [hl2] at y22
  rw [hl3] at y32
  simp only [hl0, hl1, hl2, hl3] at S10 S20 S31
  have HA := Lib.hid hxA
  have HB := Lib.hid hxB
  clear hxA hxB hx0 hx1 hx2 hx3 t0 t1 t2 t3 HT4 HSM SQ hl0 hl1 hl2 hl3 hm0 hm1 hm2 hm3 y01 y11 y21 y31 HO TC HI3 HO3 HG3 HGZ HIL hXL HPL HPSL hi0 hz0 hz1 hz2 hi3 hy0 hy1 hy2 AC HPK
  by_cases hr1 : r1 = 0
  rotate_left
  · have S := Lib.hid (S10.out (HA.out hr1))
    have hr1b : (r1 != 0) = true := by simpa using hr1
    clear hr1 S10 S20 S31 HA HB
    go_upto_region 11 with fail
    go_quiet ((go_at_call 9; exact Calls.quiet_of (S.out _)))
    go_wp2_with fail
    go_ret
    exact ⟨rfl, grown_drewN HG4.out _⟩
  obtain ⟨hr2, hr3, hs20, hs31⟩ := HB.out hr1
  have SA := Lib.hid (S20.out hs20)
  have SB := Lib.hid (S31.out hs31)
  subst hr1 hr2 hr3
  clear S10 S20 S31 HA HB hs20 hs31
  go_upto_region 12 with fail
  go_quiet ((first | (go_at_call 9; with_reducible exact Calls.quiet_of (SA.out _)) | (go_at_call 9; with_reducible exact Calls.quiet_of (SB.out _))))
  go_wp2_with fail
  go_ret
  exact ⟨rfl, grown_drewN HG4.out _⟩
end Go.Proofs.Ytdnmimfichijgaa.KUndL
