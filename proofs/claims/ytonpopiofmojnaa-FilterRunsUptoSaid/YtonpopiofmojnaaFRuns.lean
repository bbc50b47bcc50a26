/- FilterRuns, walked. -/
import Derived.Test.YtonpopiofmojnaaFRunsLaw
import Derived.Test.YtonpopiofmojnaaApp
import Derived.Test.YtonpopiofmojnaaMixed
import Derived.Test.YtonpopiofmojnaaFBlocks
import Derived.Outline
namespace Go.Proofs.Ytonpopiofmojnaa.FRuns
open Go Go.RowKit Go.Proofs.Ytonpopiofmojnaa.Fl Go.Proofs.Ytonpopiofmojnaa.Fw Go.Proofs.Ytonpopiofmojnaa.Hp Go.Proofs.Ytonpopiofmojnaa.FRun Go.Proofs.Ytonpopiofmojnaa.FNew Go.Proofs.Ytonpopiofmojnaa.Rd Go.Proofs.Ytonpopiofmojnaa.FStrain Go.Proofs.Ytonpopiofmojnaa.FAlive Go.Proofs.Ytonpopiofmojnaa.FRunsLaw Go.Proofs.Ytonpopiofmojnaa.App
set_option linter.unusedVariables false

set_option maxHeartbeats 1000000 in
theorem runs_no (c : Co) (v : Value) (rest : Int) (w : World) (hok : okAll c = false) :
    Calls Try.prog 3 #[.agg #[.float .f64 c.b0, .float .f64 c.b1, .float .f64 c.b2, .float .f64 c.a1, .float .f64 c.a2], v, .int .i64 rest] w fun e w' => e = .returned (.bool true) ∧ w.grownBy w' none := by
  have HK := Lib.hid hok
  clear hok
  go_enter Try.func3, Try.ntmps3
  go_wp2_with (first
    | (go_at_call 7; refine (strain_not c _ _ [] _ HK.out).mono ?_; rintro e w1 ⟨rfl, HG1⟩; have HB : Hid (Box w1 w.heap.size c) := Box.grown (heap_alloc_new _ _) HG1.out; obtain ⟨f0, f1, f2, f3, f4⟩ := box_facts HB.out)
    | (go_at_call 8; refine (refwrong_no c _ HK.out).mono ?_; rintro e w2 ⟨rfl, hg2⟩; have HG2 := Lib.hid hg2; clear hg2))
  go_ret
  exact ⟨rfl, grown_trans (grown_alloc (grown_refl _ _) _) (grown_trans HG1.out HG2.out)⟩

set_option maxHeartbeats 4000000 in
set_option maxRecDepth 100000 in
theorem runs_yes (c : Co) (ao : Option Addr) (n cap : Nat) (rest : Int) (ps : List (List Nat)) (w : World) (hok : okAll c = true) (hn : ps.length = n) (hsz : n * 24 ≤ 140737488355328) (htot : tot ps * 8 ≤ 140737488355328) (hv : Lls w (.slice ao n cap) ps)
    (hps : ∀ i x, ps[i]? = some x → ∃ b off u, ao = some ⟨b, off, none⟩ ∧ w.cell? ⟨b, off + i, none⟩ = some u ∧ Fls w u x) :
    Calls Try.prog 3 #[.agg #[.float .f64 c.b0, .float .f64 c.b1, .float .f64 c.b2, .float .f64 c.a1, .float .f64 c.a2], .slice ao n cap, .int .i64 rest] w fun e w' => e = .returned (.bool true) ∧ w.grownBy w' none := by
  obtain ⟨i0, hi, hz0, hz1, hz2⟩ := info_parts info22
  have HK := Lib.hid hok
  have HP := Lib.hid hps
  have HN := Lib.hid hn
  have HT := Lib.hid htot
  have HV : Hid (Lls (w.alloc (.cells #[.float .f64 c.b0, .float .f64 c.b1, .float .f64 c.b2, .float .f64 c.a1, .float .f64 c.a2] 24)) (.slice ao n cap) ps) := hv.grown (grown_alloc (grown_refl _ _) _)
  have HE : Hid (∀ p ∈ ps, p.length * 8 ≤ 140737488355328) := by
    intro p hp
    obtain ⟨i, h1⟩ := List.getElem?_of_mem hp
    have h2 := tot_snoc h1
    have h3 := tot_take ps (i + 1)
    omega
  clear hok hps hn htot hv
  go_enter Try.func3, Try.ntmps3
  go_wp2_with (go_at_call 7; refine (strain_yes c _ _ ps _ HK.out HV.out (by rw [HN.out]; exact hsz) HE.out).mono ?_; rintro e w1 ⟨v1, yss, rfl, HO1, HS1, HG1⟩; obtain ⟨ay, capy, rfl, hay⟩ := sl_open HO1.out; have hyn : yss.length = n := (by have := congrArg List.length HS1.out; rwa [List.length_map, FLaws.strains_length, HN.out] at this); rw [hyn]; have HYL := Lib.hid hyn; have HAY := Lib.hid hay; clear hay hyn; have HB : Hid (Box w1 w.heap.size c) := Box.grown (heap_alloc_new _ _) HG1.out; obtain ⟨f0, f1, f2, f3, f4⟩ := box_facts HB.out)
  refine (refwrong_ok c _ HK.out).mono ?_
  rintro e w2 ⟨rfl, hg2⟩
  have HG2 : Hid (w.grownBy w2 none) := grown_trans (grown_alloc (grown_refl _ _) _) (grown_trans HG1.out hg2)
  have HG12 := Lib.hid hg2
  have HB2 : Hid (Box w2 w.heap.size c) := HB.out.grown hg2
  clear hg2 f0 f1 f2 f3 f4
  go_wp2_with fail
  go_loopw [9, 10, 11, 41] (fun vi va fr i wr => ∃ (k : Nat) (ins als : List Nat) (f : Nat), k ≤ n ∧ i = .int .i64 k ∧ fr = .int .i64 f ∧ Hid (At c rest ps yss k ins als f) ∧ Hid (wr.ownsRow w2.heap.size 22 1 vi ins.length (ins.map (Value.float .f64))) ∧
    Hid (wr.ownsRow w2.heap.size 22 1 va als.length (als.map (Value.float .f64))) ∧ Hid (Apart vi va) ∧ Hid (w2.grownBy wr none)) (fun _ _ _ i _ => n - (intOf i).toNat)
  case atStart => exact ⟨0, [], [], 0, Nat.zero_le _, rfl, rfl, at_start _ _ _ _, World.ownsRow_nil _ _ _ _, World.ownsRow_nil _ _ _ _, (fun g h => by cases h), grown_refl _ _⟩
  case round =>
    obtain ⟨k, ins, als, f, hk, rfl, rfl, HA, HOI, HOA, HAP, HGR⟩ := hrel
    by_cases hlt : k < n
    · obtain ⟨p, hpk⟩ : ∃ p, ps[k]? = some p := ⟨ps[k]'(by rw [HN.out]; omega), List.getElem?_eq_getElem (by rw [HN.out]; omega)⟩
      obtain ⟨y, hyk⟩ : ∃ y, yss[k]? = some y := ⟨yss[k]'(by rw [HYL.out]; omega), List.getElem?_eq_getElem (by rw [HYL.out]; omega)⟩
      obtain ⟨b, off, u, rfl, hcu, hfu⟩ := HP.out k p hpk
      obtain ⟨by', oy, uy, rfl, hcy, g, rfl, hrow⟩ := HAY.out k y hyk
      obtain ⟨ap, capp, rfl, hinp⟩ := fls_in hfu
      have hwg : w.grownBy wr none := grown_trans HG2.out HGR.out
      have hwg1 : w1.grownBy wr none := grown_trans HG12.out HGR.out
      have k0 : wr.cell? ⟨b, off + k, none⟩ = some (.slice ap p.length capp) := hwg.cell hcu (by simp)
      have k1 : wr.cell? ⟨by', oy + k, none⟩ = some (.slice (some ⟨g, 0, none⟩) y.length y.length) := by have := hwg1.cell hcy (by simp); simpa using this
      have HPK := Lib.hid hpk
      have HYK := Lib.hid hyk
      have HIN := Lib.hid hinp
      have HCY := Lib.hid hcy
      have HROW : Hid (w1.heap[g]? = some (.cells (y.map (Value.float .f64)).toArray 22 (0, 0))) := hrow
      have HWG := Lib.hid hwg
      obtain ⟨ava, capva, hvae, _⟩ := fls_in (owns_sl (R := fun _ u x => u = .float .f64 x) (xs := als) HOA.out (by simp) (fun i u x h1 h2 => by rw [List.getElem?_map, h2] at h1; simpa using h1.symm))
      subst hvae
      obtain ⟨avi, capvi, hvie, _⟩ := fls_in (owns_sl (R := fun _ u x => u = .float .f64 x) (xs := ins) HOI.out (by simp) (fun i u x h1 h2 => by rw [List.getElem?_map, h2] at h1; simpa using h1.symm))
      subst hvie
      clear hpk hyk hinp hcy hcu hrow hwg hwg1
      by_cases hr : (k : Int) = rest
      · have HA2 : Hid (At c rest ps yss (k + 1) (([] : List Nat) ++ p) (als ++ y) als.length) := at_rest HA.out HS1.out HPK.out HYK.out hr
        have hrb : ((k : Int) == rest) = true := by simpa using hr
        have HRR := Lib.hid hr
        clear hr
        go_wp2_with (at_builtin; refine append_in rfl _ _ 30 rfl w2.heap.size 22 i0 (.float .f64 0) 8 Try.underlying30 hi hz0 hz1 hz2 rfl _ (([] : List Nat)).length (([] : List Nat).map (Value.float .f64)) rfl (World.ownsRow_nil _ _ 22 _) ap p.length capp (p.map (Value.float .f64)) rfl (by simp) ?a1 ?a2 ?a3 ?a4 ?a5 ?_)
        case a1 =>
          intro i u hu
          rw [List.getElem?_map] at hu
          cases hx : p[i]? with
          | none => rw [hx] at hu; cases hu
          | some x =>
            rw [hx] at hu
            simp at hu
            subst hu
            obtain ⟨b', o', h1, h2⟩ := HIN.out i x hx
            exact ⟨b', o', h1, HWG.out.cell h2 (by simp)⟩
        case a2 => intro u hu; simp at hu; obtain ⟨z, _, rfl⟩ := hu; rfl
        case a3 => have h1 := HA2.out.fewi; have h2 := tot_take ps (k + 1); have h3 := HT.out; rw [List.length_append] at h1; unfold maxLen; omega
        case a4 => have h1 := HA2.out.fewi; have h2 := tot_take ps (k + 1); have h3 := HT.out; rw [List.length_append] at h1; omega
        case a5 => exact HGR.out.size
        intro vi' w3 hown3 hg3 hat3
        have HO3 : Hid (w3.ownsRow w2.heap.size 22 1 vi' (([] : List Nat) ++ p).length ((([] : List Nat) ++ p).map (Value.float .f64))) := by unfold Hid; simpa using hown3
        have HOT : Hid (w3.ownsRow w2.heap.size 22 1 (.slice ava als.length capva) als.length (als.map (Value.float .f64)) ∧ Apart vi' (.slice ava als.length capva)) := other (v := Value.slice none 0 0) HOA.out (fun g h => by cases h) hg3 hat3
        have HG3 : Hid (w2.grownBy w3 none) := by
          have h := (Gr.of_none HGR.out : Gr w2.heap.size [22] w2 wr).trans (.of_append (World.ownsRow_nil _ _ 22 _) hg3 (by simp))
          exact h.none
        clear hown3 hg3 hat3
        have c0 : w3.cell? ⟨by', oy + k, none⟩ = some (.slice (some ⟨g, 0, none⟩) y.length y.length) := by have := (grown_trans HG12.out HG3.out).cell HCY.out (by simp); simpa using this
        go_wp2_with (at_builtin; refine append_in rfl _ _ 30 rfl w2.heap.size 22 i0 (.float .f64 0) 8 Try.underlying30 hi hz0 hz1 hz2 rfl _ als.length (als.map (Value.float .f64)) rfl HOT.out.1 (some ⟨g, 0, none⟩) y.length y.length (y.map (Value.float .f64)) rfl (by simp) ?b1 ?b2 ?b3 ?b4 ?b5 ?_)
        case b1 =>
          intro i u hu
          refine ⟨g, 0, rfl, ?_⟩
          rw [Nat.zero_add, cell_of ((Gr.of_none (S := []) (B := 0) (grown_trans HG12.out HG3.out)).keep HROW.out (by simp))]
          simpa using hu
        case b2 => intro u hu; simp at hu; obtain ⟨z, _, rfl⟩ := hu; rfl
        case b3 => have h1 := HA2.out.fewa; have h2 := tot_take ps (k + 1); have h3 := HT.out; rw [List.length_append] at h1; unfold maxLen; omega
        case b4 => have h1 := HA2.out.fewa; have h2 := tot_take ps (k + 1); have h3 := HT.out; rw [List.length_append] at h1; omega
        case b5 => exact HG3.out.size
        intro va' w4 hown4 hg4 hat4
        have HO4 : Hid (w4.ownsRow w2.heap.size 22 1 va' (als ++ y).length ((als ++ y).map (Value.float .f64))) := by unfold Hid; rw [List.length_append, List.map_append]; exact hown4
        have HOU : Hid (w4.ownsRow w2.heap.size 22 1 vi' (([] : List Nat) ++ p).length ((([] : List Nat) ++ p).map (Value.float .f64)) ∧ Apart va' vi') := other HO3.out HOT.out.2.symm hg4 hat4
        have HG4 : Hid (w2.grownBy w4 none) := by
          have h := (Gr.of_none HG3.out : Gr w2.heap.size [22] w2 w3).trans (.of_append HOT.out.1 hg4 (by simp))
          exact h.none
        clear hown4 hg4 hat4 c0
        obtain ⟨q, hq⟩ : ∃ q, q = ([] : List Nat) ++ p := ⟨_, rfl⟩
        obtain ⟨r, hr⟩ : ∃ r, r = als ++ y := ⟨_, rfl⟩
        have HYP : Hid (y.length = p.length) := ys_len HS1.out HPK.out HYK.out
        rw [← hq, ← hr] at HA2
        rw [← hq] at HOU
        rw [← hr] at HO4
        clear hq hr
        obtain ⟨ai, capi, hie, hini⟩ := fls_in (owns_sl (R := fun _ u x => u = .float .f64 x) (xs := q) HOU.out.1 (by simp) (fun i u x h1 h2 => by rw [List.getElem?_map, h2] at h1; simpa using h1.symm))
        subst hie
        obtain ⟨aw, capw, hwe, hinw⟩ := fls_in (owns_sl (R := fun _ u x => u = .float .f64 x) (xs := r) HO4.out (by simp) (fun i u x h1 h2 => by rw [List.getElem?_map, h2] at h1; simpa using h1.symm))
        subst hwe
        have hcw : r.length ≤ capw := by
          rcases owns_cells HO4.out with ⟨h, _, _⟩ | ⟨_, _, h, _, h2, _⟩
          · injection h with _ h1 h2; omega
          · injection h with _ _ h1; omega
        have hfq : r.length - als.length = q.length := by have h := congrArg List.length HA2.out.out; rwa [List.length_map, outs_length, List.length_drop] at h
        obtain ⟨as', hs, his⟩ := FBlocks.slice_lo aw r.length capw (als.length) HA2.out.le hcw
        rw [hfq] at hs
        have HIS : Hid (In w4 as' (r.drop als.length)) := his w4 r rfl hinw
        have HII := Lib.hid hini
        have HLK : Hid ((r.drop als.length).length = q.length) := by unfold Hid; rw [List.length_drop]; exact hfq
        have HLQ : Hid (q.length * 8 ≤ 140737488355328) := by have h1 := HA2.out.fewi; have h2 := tot_take ps (k + 1); have h3 := HT.out; unfold Hid; omega
        have hne2 : ((y.length : Int) != (p.length : Int)) = false := by rw [HYP.out]; simp
        clear hinw hini his hcw hfq
        go_wp2_with fail
        have hne := Mixed.Later.nonempty w4
        obtain ⟨e0, e1, e2, e3, e4⟩ := box_facts (HB2.out.grown HG4.out)
        have k0 : ∀ n : Mixed.Later w4, n.w.cell? ⟨w.heap.size, 0, none⟩ = some (.float .f64 c.b0) := Mixed.Later.cell e0
        have k1 : ∀ n : Mixed.Later w4, n.w.cell? ⟨w.heap.size, 1, none⟩ = some (.float .f64 c.b1) := Mixed.Later.cell e1
        have k2 : ∀ n : Mixed.Later w4, n.w.cell? ⟨w.heap.size, 2, none⟩ = some (.float .f64 c.b2) := Mixed.Later.cell e2
        have k3 : ∀ n : Mixed.Later w4, n.w.cell? ⟨w.heap.size, 3, none⟩ = some (.float .f64 c.a1) := Mixed.Later.cell e3
        have k4 : ∀ n : Mixed.Later w4, n.w.cell? ⟨w.heap.size, 4, none⟩ = some (.float .f64 c.a2) := Mixed.Later.cell e4
        have k5 : ∀ n : Mixed.Later w4, n.w.cell? ⟨by', oy + k, none⟩ = some (.slice (some ⟨g, 0, none⟩) y.length y.length) := Mixed.Later.cell (by have := (grown_trans HG12.out HG4.out).cell HCY.out (by simp); simpa using this)
        clear e0 e1 e2 e3 e4
        refine Mixed.wp_region_mixed (Mixed.late w4) (fun k => k == 14 || k == 15) (by kernel_rfl) (by kernel_rfl) (Mixed.late_of (grown_drew (grown_refl _ _))) ?_
        unfold Mixed.late
        refine Mixed.wpM_quiet rfl rfl rfl ?_; intro K hK; go_big_quiet_op; go_big_quiet_on
        refine Mixed.wpM_quiet rfl rfl rfl ?_; intro K hK; go_big_quiet_op; go_big_quiet_on
        refine Mixed.wpM_quiet rfl rfl rfl ?_; intro K hK; go_big_quiet_op; go_big_quiet_on
        refine Mixed.wpM_quiet rfl rfl rfl ?_; intro K hK; go_big_quiet_op; go_big_quiet_on
        refine Mixed.wpM_quiet rfl rfl rfl ?_; intro K hK; go_big_quiet_op; go_big_quiet_on
        refine Mixed.wpM_quiet rfl rfl rfl ?_; intro K hK; go_big_quiet_op; go_big_quiet_on
        refine Mixed.wpM_quiet rfl rfl rfl ?_; intro K hK; go_big_quiet_op; go_big_quiet_on
        refine Mixed.wpM_quiet rfl rfl rfl ?_; intro K hK; go_big_quiet_op; go_big_quiet_on
        refine Mixed.wpM_quiet rfl rfl rfl ?_; intro K hK; go_big_quiet_op; go_big_quiet_on
        refine Mixed.wpM_quiet rfl rfl rfl ?_; intro K hK; go_big_quiet_op; go_big_quiet_on
        refine Mixed.wpM_quiet rfl rfl rfl ?_; intro K hK; go_big_quiet_op; go_big_quiet_on
        refine Mixed.wpM_quiet rfl rfl rfl ?_; intro K hK; go_big_quiet_op; go_big_quiet_on
        refine Mixed.wpM_quiet rfl rfl rfl ?_; intro K hK; go_big_quiet_op; go_big_quiet_on
        refine Mixed.wpM_quiet rfl rfl rfl ?_; intro K hK; go_big_quiet_op; go_big_quiet_on
        refine Mixed.wpM_call rfl rfl 10 _ (by go_simp; rfl) ?_
        refine (FRef.ref_walk c ai q.length capi q _ rfl HLQ.out (HII.out.grown (grown_drew (grown_refl _ _)))).mono ?_
        rintro e w5 ⟨ar, capr, zs, rfl, hzl, hzi, hzc, hg5⟩
        have HG5 : Hid (w4.grownBy w5 none) := grown_trans (grown_drew (grown_refl _ _)) hg5
        have HZL := Lib.hid hzl
        have HZI := Lib.hid hzi
        have HZC := Lib.hid hzc
        clear hzl hzi hzc hg5
        refine ⟨_, rfl, ⟨⟨w5, HG5.out⟩, rfl⟩, ?_⟩
        go_simp
        refine Mixed.wpM_call rfl rfl 9 _ (by go_simp; rfl) ?_
        refine (likeall_in as' ar _ capr q.length (r.drop als.length) zs _ HLK.out HZL.out (by have := HLQ.out; omega) (HIS.out.grown HG5.out) HZI.out).mono ?_
        rintro e w6 ⟨rfl, m, rfl⟩
        rw [like_of HA2.out.out HZC.out]
        have HG6 : Hid (w4.grownBy (w5.drewN m) none) := grown_drewN HG5.out m
        refine ⟨_, rfl, ⟨⟨w5.drewN m, HG6.out⟩, rfl⟩, ?_⟩
        go_simp
        refine Mixed.wpM_quiet rfl rfl rfl ?_; intro K hK; go_big_quiet_op; go_big_quiet_on
        refine Mixed.wpM_quiet rfl rfl rfl ?_; intro K hK; go_big_quiet_op; go_big_quiet_on
        refine Mixed.wpM_nil ?_
        intro nx hnx
        clear nx hnx
        clear k0 k1 k2 k3 k4 k5 hne
        go_wp2_with fail
        go_roundw
        case rel =>
          have hq : Gr w2.heap.size [] w4 (w5.drewN m) := .of_none HG6.out
          exact ⟨k + 1, q, r, als.length, by omega, by go_num, rfl, HA2, owns_gr HOU.out.1 hq (by simp), owns_gr HO4.out hq (by simp), HOU.out.2.symm, grown_trans HG4.out HG6.out⟩
        case measure => simp [intOf]; omega
      · have HA2 : Hid (At c rest ps yss (k + 1) (ins ++ p) (als ++ y) f) := at_on HA.out HS1.out HPK.out HYK.out hr
        have hrb : ((k : Int) == rest) = false := by simpa using hr
        have HRR := Lib.hid hr
        clear hr
        go_wp2_with (at_builtin; refine append_in rfl _ _ 30 rfl w2.heap.size 22 i0 (.float .f64 0) 8 Try.underlying30 hi hz0 hz1 hz2 rfl _ (ins).length (ins.map (Value.float .f64)) rfl HOI.out ap p.length capp (p.map (Value.float .f64)) rfl (by simp) ?d1 ?d2 ?d3 ?d4 ?d5 ?_)
        case d1 =>
          intro i u hu
          rw [List.getElem?_map] at hu
          cases hx : p[i]? with
          | none => rw [hx] at hu; cases hu
          | some x =>
            rw [hx] at hu
            simp at hu
            subst hu
            obtain ⟨b', o', h1, h2⟩ := HIN.out i x hx
            exact ⟨b', o', h1, HWG.out.cell h2 (by simp)⟩
        case d2 => intro u hu; simp at hu; obtain ⟨z, _, rfl⟩ := hu; rfl
        case d3 => have h1 := HA2.out.fewi; have h2 := tot_take ps (k + 1); have h3 := HT.out; rw [List.length_append] at h1; unfold maxLen; omega
        case d4 => have h1 := HA2.out.fewi; have h2 := tot_take ps (k + 1); have h3 := HT.out; rw [List.length_append] at h1; omega
        case d5 => exact HGR.out.size
        intro vi' w3 hown3 hg3 hat3
        have HO3 : Hid (w3.ownsRow w2.heap.size 22 1 vi' (ins ++ p).length ((ins ++ p).map (Value.float .f64))) := by unfold Hid; rw [List.length_append, List.map_append]; exact hown3
        have HOT : Hid (w3.ownsRow w2.heap.size 22 1 (.slice ava als.length capva) als.length (als.map (Value.float .f64)) ∧ Apart vi' (.slice ava als.length capva)) := other (v := Value.slice avi ins.length capvi) HOA.out HAP.out hg3 hat3
        have HG3 : Hid (w2.grownBy w3 none) := by
          have h := (Gr.of_none HGR.out : Gr w2.heap.size [22] w2 wr).trans (.of_append HOI.out hg3 (by simp))
          exact h.none
        clear hown3 hg3 hat3
        have c0 : w3.cell? ⟨by', oy + k, none⟩ = some (.slice (some ⟨g, 0, none⟩) y.length y.length) := by have := (grown_trans HG12.out HG3.out).cell HCY.out (by simp); simpa using this
        go_wp2_with (at_builtin; refine append_in rfl _ _ 30 rfl w2.heap.size 22 i0 (.float .f64 0) 8 Try.underlying30 hi hz0 hz1 hz2 rfl _ als.length (als.map (Value.float .f64)) rfl HOT.out.1 (some ⟨g, 0, none⟩) y.length y.length (y.map (Value.float .f64)) rfl (by simp) ?e1 ?e2 ?e3 ?e4 ?e5 ?_)
        case e1 =>
          intro i u hu
          refine ⟨g, 0, rfl, ?_⟩
          rw [Nat.zero_add, cell_of ((Gr.of_none (S := []) (B := 0) (grown_trans HG12.out HG3.out)).keep HROW.out (by simp))]
          simpa using hu
        case e2 => intro u hu; simp at hu; obtain ⟨z, _, rfl⟩ := hu; rfl
        case e3 => have h1 := HA2.out.fewa; have h2 := tot_take ps (k + 1); have h3 := HT.out; rw [List.length_append] at h1; unfold maxLen; omega
        case e4 => have h1 := HA2.out.fewa; have h2 := tot_take ps (k + 1); have h3 := HT.out; rw [List.length_append] at h1; omega
        case e5 => exact HG3.out.size
        intro va' w4 hown4 hg4 hat4
        have HO4 : Hid (w4.ownsRow w2.heap.size 22 1 va' (als ++ y).length ((als ++ y).map (Value.float .f64))) := by unfold Hid; rw [List.length_append, List.map_append]; exact hown4
        have HOU : Hid (w4.ownsRow w2.heap.size 22 1 vi' (ins ++ p).length ((ins ++ p).map (Value.float .f64)) ∧ Apart va' vi') := other HO3.out HOT.out.2.symm hg4 hat4
        have HG4 : Hid (w2.grownBy w4 none) := by
          have h := (Gr.of_none HG3.out : Gr w2.heap.size [22] w2 w3).trans (.of_append HOT.out.1 hg4 (by simp))
          exact h.none
        clear hown4 hg4 hat4 c0
        obtain ⟨q, hq⟩ : ∃ q, q = ins ++ p := ⟨_, rfl⟩
        obtain ⟨r, hr⟩ : ∃ r, r = als ++ y := ⟨_, rfl⟩
        have HYP : Hid (y.length = p.length) := ys_len HS1.out HPK.out HYK.out
        rw [← hq, ← hr] at HA2
        rw [← hq] at HOU
        rw [← hr] at HO4
        clear hq hr
        obtain ⟨ai, capi, hie, hini⟩ := fls_in (owns_sl (R := fun _ u x => u = .float .f64 x) (xs := q) HOU.out.1 (by simp) (fun i u x h1 h2 => by rw [List.getElem?_map, h2] at h1; simpa using h1.symm))
        subst hie
        obtain ⟨aw, capw, hwe, hinw⟩ := fls_in (owns_sl (R := fun _ u x => u = .float .f64 x) (xs := r) HO4.out (by simp) (fun i u x h1 h2 => by rw [List.getElem?_map, h2] at h1; simpa using h1.symm))
        subst hwe
        have hcw : r.length ≤ capw := by
          rcases owns_cells HO4.out with ⟨h, _, _⟩ | ⟨_, _, h, _, h2, _⟩
          · injection h with _ h1 h2; omega
          · injection h with _ _ h1; omega
        have hfq : r.length - f = q.length := by have h := congrArg List.length HA2.out.out; rwa [List.length_map, outs_length, List.length_drop] at h
        obtain ⟨as', hs, his⟩ := FBlocks.slice_lo aw r.length capw (f) HA2.out.le hcw
        rw [hfq] at hs
        have HIS : Hid (In w4 as' (r.drop f)) := his w4 r rfl hinw
        have HII := Lib.hid hini
        have HLK : Hid ((r.drop f).length = q.length) := by unfold Hid; rw [List.length_drop]; exact hfq
        have HLQ : Hid (q.length * 8 ≤ 140737488355328) := by have h1 := HA2.out.fewi; have h2 := tot_take ps (k + 1); have h3 := HT.out; unfold Hid; omega
        have hne2 : ((y.length : Int) != (p.length : Int)) = false := by rw [HYP.out]; simp
        clear hinw hini his hcw hfq
        go_wp2_with fail
        have hne := Mixed.Later.nonempty w4
        obtain ⟨e0, e1, e2, e3, e4⟩ := box_facts (HB2.out.grown HG4.out)
        have k0 : ∀ n : Mixed.Later w4, n.w.cell? ⟨w.heap.size, 0, none⟩ = some (.float .f64 c.b0) := Mixed.Later.cell e0
        have k1 : ∀ n : Mixed.Later w4, n.w.cell? ⟨w.heap.size, 1, none⟩ = some (.float .f64 c.b1) := Mixed.Later.cell e1
        have k2 : ∀ n : Mixed.Later w4, n.w.cell? ⟨w.heap.size, 2, none⟩ = some (.float .f64 c.b2) := Mixed.Later.cell e2
        have k3 : ∀ n : Mixed.Later w4, n.w.cell? ⟨w.heap.size, 3, none⟩ = some (.float .f64 c.a1) := Mixed.Later.cell e3
        have k4 : ∀ n : Mixed.Later w4, n.w.cell? ⟨w.heap.size, 4, none⟩ = some (.float .f64 c.a2) := Mixed.Later.cell e4
        have k5 : ∀ n : Mixed.Later w4, n.w.cell? ⟨by', oy + k, none⟩ = some (.slice (some ⟨g, 0, none⟩) y.length y.length) := Mixed.Later.cell (by have := (grown_trans HG12.out HG4.out).cell HCY.out (by simp); simpa using this)
        clear e0 e1 e2 e3 e4
        refine Mixed.wp_region_mixed (Mixed.late w4) (fun k => k == 14 || k == 15) (by kernel_rfl) (by kernel_rfl) (Mixed.late_of (grown_drew (grown_refl _ _))) ?_
        unfold Mixed.late
        refine Mixed.wpM_quiet rfl rfl rfl ?_; intro K hK; go_big_quiet_op; go_big_quiet_on
        refine Mixed.wpM_quiet rfl rfl rfl ?_; intro K hK; go_big_quiet_op; go_big_quiet_on
        refine Mixed.wpM_quiet rfl rfl rfl ?_; intro K hK; go_big_quiet_op; go_big_quiet_on
        refine Mixed.wpM_quiet rfl rfl rfl ?_; intro K hK; go_big_quiet_op; go_big_quiet_on
        refine Mixed.wpM_quiet rfl rfl rfl ?_; intro K hK; go_big_quiet_op; go_big_quiet_on
        refine Mixed.wpM_quiet rfl rfl rfl ?_; intro K hK; go_big_quiet_op; go_big_quiet_on
        refine Mixed.wpM_quiet rfl rfl rfl ?_; intro K hK; go_big_quiet_op; go_big_quiet_on
        refine Mixed.wpM_quiet rfl rfl rfl ?_; intro K hK; go_big_quiet_op; go_big_quiet_on
        refine Mixed.wpM_quiet rfl rfl rfl ?_; intro K hK; go_big_quiet_op; go_big_quiet_on
        refine Mixed.wpM_quiet rfl rfl rfl ?_; intro K hK; go_big_quiet_op; go_big_quiet_on
        refine Mixed.wpM_quiet rfl rfl rfl ?_; intro K hK; go_big_quiet_op; go_big_quiet_on
        refine Mixed.wpM_quiet rfl rfl rfl ?_; intro K hK; go_big_quiet_op; go_big_quiet_on
        refine Mixed.wpM_quiet rfl rfl rfl ?_; intro K hK; go_big_quiet_op; go_big_quiet_on
        refine Mixed.wpM_quiet rfl rfl rfl ?_; intro K hK; go_big_quiet_op; go_big_quiet_on
        refine Mixed.wpM_call rfl rfl 10 _ (by go_simp; rfl) ?_
        refine (FRef.ref_walk c ai q.length capi q _ rfl HLQ.out (HII.out.grown (grown_drew (grown_refl _ _)))).mono ?_
        rintro e w5 ⟨ar, capr, zs, rfl, hzl, hzi, hzc, hg5⟩
        have HG5 : Hid (w4.grownBy w5 none) := grown_trans (grown_drew (grown_refl _ _)) hg5
        have HZL := Lib.hid hzl
        have HZI := Lib.hid hzi
        have HZC := Lib.hid hzc
        clear hzl hzi hzc hg5
        refine ⟨_, rfl, ⟨⟨w5, HG5.out⟩, rfl⟩, ?_⟩
        go_simp
        refine Mixed.wpM_call rfl rfl 9 _ (by go_simp; rfl) ?_
        refine (likeall_in as' ar _ capr q.length (r.drop f) zs _ HLK.out HZL.out (by have := HLQ.out; omega) (HIS.out.grown HG5.out) HZI.out).mono ?_
        rintro e w6 ⟨rfl, m, rfl⟩
        rw [like_of HA2.out.out HZC.out]
        have HG6 : Hid (w4.grownBy (w5.drewN m) none) := grown_drewN HG5.out m
        refine ⟨_, rfl, ⟨⟨w5.drewN m, HG6.out⟩, rfl⟩, ?_⟩
        go_simp
        refine Mixed.wpM_quiet rfl rfl rfl ?_; intro K hK; go_big_quiet_op; go_big_quiet_on
        refine Mixed.wpM_quiet rfl rfl rfl ?_; intro K hK; go_big_quiet_op; go_big_quiet_on
        refine Mixed.wpM_nil ?_
        intro nx hnx
        clear nx hnx
        clear k0 k1 k2 k3 k4 k5 hne
        go_wp2_with fail
        go_roundw
        case rel =>
          have hq : Gr w2.heap.size [] w4 (w5.drewN m) := .of_none HG6.out
          exact ⟨k + 1, q, r, f, by omega, by go_num, rfl, HA2, owns_gr HOU.out.1 hq (by simp), owns_gr HO4.out hq (by simp), HOU.out.2.symm, grown_trans HG4.out HG6.out⟩
        case measure => simp [intOf]; omega
    · obtain rfl : k = n := by omega
      go_wp2_with fail
      go_ret
      exact ⟨rfl, grown_trans HG2.out HGR.out⟩

theorem runs_calls (c : Co) (v : Value) (ps : List (List Nat)) (rest : Int) (w : World) (hv : Lls w v ps) (hsz : ps.length * 24 ≤ 140737488355328) (htot : tot ps * 8 ≤ 140737488355328) :
    Calls Try.prog 3 #[.agg #[.float .f64 c.b0, .float .f64 c.b1, .float .f64 c.b2, .float .f64 c.a1, .float .f64 c.a2], v, .int .i64 rest] w fun e w' => e = .returned (.bool true) ∧ w.grownBy w' none := by
  cases hok : okAll c with
  | false => exact runs_no c v rest w hok
  | true =>
    obtain ⟨ao, cap, rfl, h⟩ := sl_open hv
    exact runs_yes c ao ps.length cap rest ps w hok rfl hsz htot hv h

end Go.Proofs.Ytonpopiofmojnaa.FRuns
