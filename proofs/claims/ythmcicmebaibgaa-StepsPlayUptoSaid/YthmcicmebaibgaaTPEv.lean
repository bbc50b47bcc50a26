/- window.events: the walk. -/
import Derived.Test.YthmcicmebaibgaaTWin
import Derived.Test.YthmcicmebaibgaaTSame
import Derived.Deep.AppendLies
import Derived.Deep.RegionLaw
namespace Go.Proofs.Ythmcicmebaibgaa.TPEv
open Go Go.RowKit Go.Proofs.Ythmcicmebaibgaa.WMod Go.Proofs.Ythmcicmebaibgaa.TMod Go.Proofs.Ythmcicmebaibgaa.TRead Go.Proofs.Ythmcicmebaibgaa.TSz Go.Proofs.Ythmcicmebaibgaa.TEv Go.Proofs.Ythmcicmebaibgaa.TApp Go.Proofs.Ythmcicmebaibgaa.TWin Go.Proofs.Ythmcicmebaibgaa.Opn Go.Proofs.Ythmcicmebaibgaa.Hp Go.Proofs.Ythmcicmebaibgaa.Rd Go.Proofs.Ythmcicmebaibgaa.TWWrong Go.Proofs.Ythmcicmebaibgaa.TSame
set_option linter.unusedVariables false
set_option linter.unusedSimpArgs false

set_option maxHeartbeats 6000000 in
set_option maxRecDepth 100000 in
theorem events_calls (es : List Ev) (ao : Option Addr) (c : Nat) (w0 w : World) (wb : Nat) (fr till a : Int) (X : List Ev) (hE : Evs w0 (.slice ao es.length c) es) (hb : ∀ e ∈ es, 0 ≤ e.at_ ∧ e.at_ ≤ 65536) (ha0 : 0 ≤ a) (ha1 : a ≤ 1125899906842624)
    (hlen : es.length ≤ 4096) (hW : WinS w0 w wb fr till X) :
    Calls Try.prog 32 #[.pointer (some ⟨wb, 0, none⟩), .slice ao es.length c, .int .i64 a] w fun e w' => e = .returned (.tuple #[]) ∧ Hid (WinS w0 w' wb fr till (X ++ win fr till (es.map (shift a)))) ∧ Hid (Gr w0.heap.size [69, 60] w w') := by
  obtain ⟨i0, hi, hz0, hz1, hz2⟩ := info_parts info60
  obtain ⟨n, hn⟩ : ∃ n, es.length = n := ⟨_, rfl⟩
  have HN := Lib.hid hn
  have HE := Lib.hid hE
  have HBD := Lib.hid hb
  have HW := Lib.hid hW
  rw [hn] at hlen ⊢
  clear hn hE hb hW
  go_enter Try.func32, Try.ntmps32
  go_wp2_with fail
  go_loopw [10] (fun v10 wr => ∃ i : Nat, i ≤ n ∧ v10 = .int .i64 (i : Int) ∧ Hid (WinS w0 wr wb fr till (X ++ win fr till ((es.take i).map (shift a)))) ∧ Hid (Gr w0.heap.size [69, 60] w wr)) (fun v10 _ => n - (intOf v10).toNat)
  case atStart =>
    refine ⟨0, Nat.zero_le _, rfl, ?_, Gr.refl _ _ _⟩
    unfold Hid
    rw [List.take_zero]
    show WinS w0 w wb fr till (X ++ [])
    rw [List.append_nil]
    exact HW.out
  case round =>
    obtain ⟨i, hi1, rfl, HWR, HGR⟩ := hrel
    by_cases hie : i = n
    · have HRES : Hid (WinS w0 wr wb fr till (X ++ win fr till (es.map (shift a)))) := by
        have := HWR.out
        unfold Hid at this ⊢
        rw [hie, ← HN.out, List.take_length] at this
        exact this
      subst hie
      go_wp2_with fail
      go_end0
      exact ⟨rfl, HRES.out, HGR.out⟩
    have hin : i < n := by omega
    have hin2 : (i : Int) < (n : Int) := by omega
    obtain ⟨ev, hev⟩ : ∃ ev, es[i]? = some ev := ⟨es[i]'(by have := HN.out; unfold Hid at this; omega), List.getElem?_eq_getElem _⟩
    obtain ⟨b, o, rfl, hrg⟩ := evs_at HE.out hev
    have hbd := HBD.out ev (List.mem_of_getElem? hev)
    have HEV := Lib.hid hev
    have hgr := HWR.out.gr
    have HBS : Hid (w0.heap.size ≤ wb) := HWR.out.bs
    obtain ⟨ea, kd, ch, da, db⟩ := ev
    simp only at hbd
    obtain ⟨hb0, hb1⟩ := hbd
    have e0 : wr.cell? ⟨b, o + i * 5, none⟩ = some (.int .i64 ea) := grown_cell hgr (hrg 0 _ rfl) (by simp)
    have e1 : wr.cell? ⟨b, o + i * 5 + 1, none⟩ = some (.int .i64 kd) := grown_cell hgr (hrg 1 _ rfl) (by simp)
    have e2 : wr.cell? ⟨b, o + i * 5 + 2, none⟩ = some (.int .i64 ch) := grown_cell hgr (hrg 2 _ rfl) (by simp)
    have e3 : wr.cell? ⟨b, o + i * 5 + 3, none⟩ = some (.int .i64 da) := grown_cell hgr (hrg 3 _ rfl) (by simp)
    have e4 : wr.cell? ⟨b, o + i * 5 + 4, none⟩ = some (.int .i64 db) := grown_cell hgr (hrg 4 _ rfl) (by simp)
    clear hev hrg hgr
    have ew : IntKind.i64.wrap (ea + a) = ea + a := IntWalk.i64_in _ (by omega)
    obtain ⟨sb, hsb⟩ : ∃ sb, wr.heap.size = sb := ⟨_, rfl⟩
    have HSB := Lib.hid hsb
    clear hsb
    go_upto_region 4 with fail
    simp only [HSB.out]
    obtain ⟨we, hwe⟩ : ∃ we, wr.alloc (.cells #[.int .i64 (ea + a), .int .i64 kd, .int .i64 ch, .int .i64 da, .int .i64 db] 60) = we := ⟨_, rfl⟩
    have HRB : Hid (we.heap[sb]? = some (.cells #[.int .i64 (ea + a), .int .i64 kd, .int .i64 ch, .int .i64 da, .int .i64 db] 60 (0, 0))) := by
      unfold Hid
      rw [← hwe, ← HSB.out]
      exact heap_alloc_new _ _
    have HGE : Hid (wr.grownBy we none) := by
      unfold Hid
      rw [← hwe]
      exact grown_alloc (grown_refl _ _) _
    simp only [hwe]
    clear hwe e0 e1 e2 e3 e4
    have HWE : Hid (WinS w0 we wb fr till (X ++ win fr till ((es.take i).map (shift a)))) := HWR.out.kept HGE.out
    have HGRE : Hid (Gr w0.heap.size [69, 60] w we) := HGR.out.trans (Gr.of_none HGE.out)
    have HSTEP := Lib.hid (inW_cons fr till X es a i _ HEV.out)
    obtain ⟨Z, hZ⟩ : ∃ Z, X ++ win fr till ((es.take i).map (shift a)) = Z := ⟨_, rfl⟩
    rw [hZ] at HWE HSTEP
    have HZ := Lib.hid hZ
    clear hZ
    obtain ⟨ax, cx, hr0, hn0, ho0⟩ := HWE.out.ex
    obtain ⟨zn, hzn⟩ : ∃ zn, (Z.take 4096).length = zn := ⟨_, rfl⟩
    obtain ⟨zf, hzf⟩ : ∃ zf, decide (4096 < Z.length) = zf := ⟨_, rfl⟩
    rw [hzn, hzf] at hr0
    rw [hzn] at hn0 ho0
    have hzn2 : zn = min 4096 Z.length := by rw [← hzn, List.length_take]
    have HZN := Lib.hid hzn
    have HZN2 := Lib.hid hzn2
    have HZF := Lib.hid hzf
    have HWB : Hid (we.heap[wb]? = some (.cells #[.int .i64 fr, .int .i64 till, .slice ax zn cx, .bool zf] 69 (0, 0))) := hr0
    have HNO := Lib.hid hn0
    have HOW := Lib.hid ho0
    clear hr0 hn0 ho0 hzn hzf hzn2
    have q0 := cell_of HWB.out 0
    have q1 := cell_of HWB.out 1
    have q2 := cell_of HWB.out 2
    have q3 := cell_of HWB.out 3
    have qf := free_of HWB.out 3
    have p0 := cell_of HRB.out 0
    have p1 := cell_of HRB.out 1
    have p2 := cell_of HRB.out 2
    have p3 := cell_of HRB.out 3
    have p4 := cell_of HRB.out 4
    trace "r4"
    by_cases c1 : ea + a < fr
    · have HNX : Hid (WinS w0 we wb fr till (X ++ win fr till ((es.take (i + 1)).map (shift a)))) := by
        have := HSTEP.out
        unfold Hid at this ⊢
        rw [this, if_neg (by unfold inW shift; simp; omega), List.append_nil]
        exact HWE.out
      have d1 : decide (ea + a < fr) = true := decide_eq_true c1
      go_quiet (fail)
      go_wp2_with fail
      refine ⟨?_, by simp [intOf]; omega⟩
      first
        | exact ⟨i + 1, by omega, rfl, HNX.out.kept (grown_drewN (grown_refl _ _) _), HGRE.out.drewN _⟩
        | (repeat apply Exists.intro
           refine ⟨?_, rfl⟩
           exact ⟨i + 1, by omega, rfl, HNX.out.kept (grown_drewN (grown_refl _ _) _), HGRE.out.drewN _⟩)
    have d1 : decide (ea + a < fr) = false := decide_eq_false c1
    by_cases c2 : till ≤ ea + a
    · have HNX : Hid (WinS w0 we wb fr till (X ++ win fr till ((es.take (i + 1)).map (shift a)))) := by
        have := HSTEP.out
        unfold Hid at this ⊢
        rw [this, if_neg (by unfold inW shift; simp; omega), List.append_nil]
        exact HWE.out
      have d2 : decide (till ≤ ea + a) = true := decide_eq_true c2
      go_quiet (fail)
      go_wp2_with fail
      refine ⟨?_, by simp [intOf]; omega⟩
      first
        | exact ⟨i + 1, by omega, rfl, HNX.out.kept (grown_drewN (grown_refl _ _) _), HGRE.out.drewN _⟩
        | (repeat apply Exists.intro
           refine ⟨?_, rfl⟩
           exact ⟨i + 1, by omega, rfl, HNX.out.kept (grown_drewN (grown_refl _ _) _), HGRE.out.drewN _⟩)
    have d2 : decide (till ≤ ea + a) = false := decide_eq_false c2
    have HIN : Hid (inW fr till (shift a ⟨ea, kd, ch, da, db⟩) = true) := by unfold Hid inW shift; simp; omega
    go_quiet (fail)
    clear d1 d2
    have HGQ : Hid (we.grownBy (we.drewN nq) none) := grown_drewN (grown_refl _ _) _
    clear q0 q1 q2 q3 qf p0 p1 p2 p3 p4
    obtain ⟨wq, hwq⟩ : ∃ wq, we.drewN nq = wq := ⟨_, rfl⟩
    rw [hwq] at HGQ
    simp only [hwq]
    clear hwq
    have HRBQ : Hid (wq.heap[sb]? = some (.cells #[.int .i64 (ea + a), .int .i64 kd, .int .i64 ch, .int .i64 da, .int .i64 db] 60 (0, 0))) := row_kept HGQ.out HRB.out (by simp)
    have HWBQ : Hid (wq.heap[wb]? = some (.cells #[.int .i64 fr, .int .i64 till, .slice ax zn cx, .bool zf] 69 (0, 0))) := row_kept HGQ.out HWB.out (by simp)
    have HOWQ : Hid (wq.ownsRow w0.heap.size 60 5 (.slice ax zn cx) zn (evC (Z.take 4096))) := own_kept HOW.out HGQ.out
    have HWQ : Hid (WinS w0 wq wb fr till Z) := HWE.out.kept HGQ.out
    have HGRQ : Hid (Gr w0.heap.size [69, 60] w wq) := HGRE.out.trans (Gr.of_none HGQ.out)
    clear HRB HWB HOW HWE HGRE HGQ HGE
    have q2 := cell_of HWBQ.out 2
    have q3 := cell_of HWBQ.out 3
    have qf := free_of HWBQ.out 3
    have hzm : zn ≤ 4096 := by have := HZN2.out; unfold Hid at this; omega
    by_cases hz4 : zn = 4096
    · have HRES : Hid (WinS w0 (wq.setCell ⟨wb, 3, none⟩ (.bool true)) wb fr till (X ++ win fr till (es.map (shift a)))) := by
        unfold Hid
        rw [inW_rest fr till X es a i, HZ.out]
        exact HWQ.out.fill (by have := HZN2.out; unfold Hid at this; omega) (inW_ne fr till es a i _ HEV.out HIN.out)
      have HGF : Hid (Gr w0.heap.size [69, 60] w (wq.setCell ⟨wb, 3, none⟩ (.bool true))) := HGRQ.out.trans (HWQ.out.fill_gr _)
      have hz5 : ((zn : Int) == 4096) = true := by subst hz4; rfl
      clear hz4
      go_wp2_with fail
      refine bodyPost_ret (results_none rfl _ _ _) rfl ?_
      exact ⟨rfl, HRES.out, HGF.out⟩
    have hz5 : ((zn : Int) == 4096) = false := by simp; omega
    go_upto_region 7 with fail
    trace "r7"
    have HLZ : Hid (Z.length = zn) := by have := HZN2.out; unfold Hid at *; omega
    have HTZ : Hid (Z.take 4096 = Z) := by unfold Hid; exact List.take_of_length_le (by have := HLZ.out; unfold Hid at this; omega)
    rw [HTZ.out] at HOWQ
    have p0 := cell_of HRBQ.out 0
    have p1 := cell_of HRBQ.out 1
    have p2 := cell_of HRBQ.out 2
    have p3 := cell_of HRBQ.out 3
    have p4 := cell_of HRBQ.out 4
    have HOWD : Hid (∀ w', wq.grownBy w' none → w'.ownsRow w0.heap.size 60 5 (.slice ax zn cx) zn (evC Z)) := fun w' hg => own_kept HOWQ.out hg
    have HBQ : Hid (w0.heap.size ≤ wq.heap.size) := HWQ.out.gr.size
    have hwbl : wb < wq.heap.size := lt_of HWBQ.out
    have qa2 : ∀ o, (wq.alloc o).cell? ⟨wb, 2, none⟩ = some (.slice ax zn cx) := fun o => cell_of (row_kept (grown_alloc (grown_refl _ none) _) HWBQ.out (by simp)) 2
    have qb2 : ∀ o, (wq.alloc o).drew.cell? ⟨wb, 2, none⟩ = some (.slice ax zn cx) := fun o => cell_of (row_kept (grown_drew (grown_alloc (grown_refl _ none) _)) HWBQ.out (by simp)) 2
    go_region_law (refine step_append_lies _ rfl (.tmp 48) (.tmp 50) 32 rfl w0.heap.size 60 i0 (.agg #[.int .i64 0, .int .i64 0, .int .i64 0, .int .i64 0, .int .i64 0]) 5 40 Try.underlying32 hi hz0 hz1 hz2 rfl (by decide) (.slice ax zn cx) zn (evC Z) rfl (HOWD.out _ (by repeat (first | exact grown_alloc (grown_refl _ _) _ | refine grown_drew ?_))) ⟨wq.heap.size, 0, none⟩ 1 1 [.int .i64 (ea + a), .int .i64 kd, .int .i64 ch, .int .i64 da, .int .i64 db] rfl rfl (World.news_of_block (cs := #[.int .i64 (ea + a), .int .i64 kd, .int .i64 ch, .int .i64 da, .int .i64 db]) (t := 60) (fr := (0, 0)) (by exact heap_alloc_new wq _)) (by simp [Value.oneCell']) (by decide) (by unfold maxLen; omega) (by omega) (by have := HBQ.out; unfold Hid at this; simp; omega) _ rfl ?_; intro g cap w1 hown hgrow hat hlt; have HG9 : Hid (wq.grownBy w1 (Value.slice ax zn cx).ownBlock) := grown_trans (grown_none (by repeat (first | exact grown_alloc (grown_refl _ _) _ | refine grown_drew ?_)) _) hgrow; have HAT : Hid ((Value.slice ax zn cx).ownBlock = some g ∨ wq.heap.size ≤ g) := hat.imp id (fun h => by rw [h]; simp); have HOWN := Lib.hid hown; have HR9 := row_kept HG9.out HWBQ.out (fun e => HNO.out e.symm); have t2 := cell_of HR9 2; have tf := free_of HR9 2; clear hown hgrow hat hlt HR9)
    all_goals
      have HNX : Hid (WinS w0 (w1.setCell ⟨wb, 2, none⟩ (.slice (some ⟨g, 0, none⟩) (zn + 1) cap)) wb fr till (X ++ win fr till ((es.take (i + 1)).map (shift a)))) := by
        have hst := HSTEP.out
        unfold Hid
        try unfold Hid at hst
        rw [hst, if_pos HIN.out]
        have hlz := HLZ.out
        have hzf : false = zf := by rw [← HZF.out]; exact (decide_eq_false (by omega)).symm
        have h1 := HWBQ.out
        have h3 := HOWQ.out
        have h4 := HOWN.out
        have h5 := HG9.out
        have h2 := HNO.out
        have hat : (Value.slice (some ⟨g, 0, none⟩) (zn + 1) cap).ownBlock = (Value.slice ax zn cx).ownBlock ∨ ∃ q, (Value.slice (some ⟨g, 0, none⟩) (zn + 1) cap).ownBlock = some q ∧ wq.heap.size ≤ q := HAT.out.imp (fun h => by rw [h]; rfl) (fun h => ⟨g, rfl, h⟩)
        try unfold Hid at h1 h2 h3 h4 h5
        rw [← hzf] at h1
        rw [← hlz] at h1 h2 h3 h4 h5 hat ⊢
        exact WinS.push (e := shift a ⟨ea, kd, ch, da, db⟩) HWQ.out.gr HBS.out (by omega) h1 h2 h3 h4 h5 hat
      have HGF : Hid (Gr w0.heap.size [69, 60] w (w1.setCell ⟨wb, 2, none⟩ (.slice (some ⟨g, 0, none⟩) (zn + 1) cap))) := HGRQ.out.trans (push_gr HBS.out HWBQ.out HNO.out HOWQ.out HG9.out)
      clear q2 q3 qf qa2 qb2 p0 p1 p2 p3 p4 t2 tf
      go_wp2_with fail
      refine ⟨?_, by simp [intOf]; omega⟩
      first
        | exact ⟨i + 1, by omega, rfl, HNX.out, HGF.out⟩
        | (repeat apply Exists.intro
           refine ⟨?_, rfl⟩
           exact ⟨i + 1, by omega, rfl, HNX.out, HGF.out⟩)

end Go.Proofs.Ythmcicmebaibgaa.TPEv
