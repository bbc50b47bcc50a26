/- The reference's word on a graph: the walk. -/
import Derived.Test.YtdliilmnfbgplaaGRLoop
namespace Go.Proofs.Ytdliilmnfbgplaa.GRWrong
open Go Go.RowKit Go.Proofs.Ytdliilmnfbgplaa.GPiece Go.Proofs.Ytdliilmnfbgplaa.Fl Go.Proofs.Ytdliilmnfbgplaa.Fw Go.Proofs.Ytdliilmnfbgplaa.GRd Go.Proofs.Ytdliilmnfbgplaa.GCells Go.Proofs.Ytdliilmnfbgplaa.GStep Go.Proofs.Ytdliilmnfbgplaa.GMod Go.Proofs.Ytdliilmnfbgplaa.GOrd Go.Proofs.Ytdliilmnfbgplaa.GMem Go.Proofs.Ytdliilmnfbgplaa.GNode Go.Proofs.Ytdliilmnfbgplaa.GNode4 Go.Proofs.Ytdliilmnfbgplaa.GPMem Go.Proofs.Ytdliilmnfbgplaa.GPState Go.Proofs.Ytdliilmnfbgplaa.GSub Go.Proofs.Ytdliilmnfbgplaa.GMade Go.Proofs.Ytdliilmnfbgplaa.GNewS Go.Proofs.Ytdliilmnfbgplaa.GNewF Go.Proofs.Ytdliilmnfbgplaa.GNew Go.Proofs.Ytdliilmnfbgplaa.GStart Go.Proofs.Ytdliilmnfbgplaa.GRNode Go.Proofs.Ytdliilmnfbgplaa.GRLoop Go.Proofs.Ytdliilmnfbgplaa.Hp Go.Proofs.Ytdliilmnfbgplaa.Rd Go.Proofs.Ytdliilmnfbgplaa.Opn
set_option linter.unusedVariables false
set_option linter.unusedSimpArgs false

/-- What is wrong with a graph. -/
noncomputable def wrongE (g : Gd) : Int := if preE g ≠ 0 then preE g else if loopB g = true then 10 else 0
theorem wrongE_pre {g : Gd} (h : preE g ≠ 0) : wrongE g = preE g := if_pos h
theorem wrongE_loop {g : Gd} (h : preE g = 0) {b : Bool} (hb : loopB g = b) : wrongE g = if b = true then 10 else 0 := by
  unfold wrongE
  rw [if_neg (fun e => e h), hb]
theorem first_at {g : Gd} {k : Nat} {x : Nd} (hx : g.nodes[k]? = some x) : firstE g (g.nodes.drop k) = if madeE g x ≠ 0 then madeE g x else firstE g (g.nodes.drop (k + 1)) := by
  obtain ⟨hh, he⟩ := List.getElem?_eq_some_iff.1 hx
  rw [List.drop_eq_getElem_cons hh, he]
  rfl

set_option maxHeartbeats 8000000 in
set_option maxRecDepth 100000 in
theorem wrong_calls (A0 : Nat → Prop) (g : Gd) (na oa : Option Addr) (nc oc : Nat) (w : World) (hnd : NdsR w A0 (.slice na g.nodes.length nc) g.nodes) (hou : SlA 1 iC w A0 (.slice oa g.outs.length oc) g.outs)
    (hfl : ∀ x ∈ g.nodes, x.from_.length ≤ 1048576 ∧ x.pt.step < 4294967296) :
    Calls Try.prog 8 #[gdV g.ins (.slice na g.nodes.length nc) (.slice oa g.outs.length oc)] w fun e w' => e = .returned (.int .i64 (wrongE g)) ∧ Hid (w.grownBy w' none) := by
  obtain ⟨N, hN⟩ : ∃ N, g.nodes.length = N := ⟨_, rfl⟩
  obtain ⟨M, hM⟩ : ∃ M, g.outs.length = M := ⟨_, rfl⟩
  obtain ⟨ins, hins⟩ : ∃ ins, g.ins = ins := ⟨_, rfl⟩
  have LC := fun v h1 h2 h3 h4 => loop_calls A0 g na oa nc oc v h1 h2 h3 h4
  unfold gdV at LC ⊢
  have HN := Lib.hid hN
  have HM := Lib.hid hM
  have HI := Lib.hid hins
  have P5 := Lib.hid (@pre5 g)
  rw [hN] at hnd LC ⊢
  rw [hM] at hou LC ⊢
  rw [hins] at LC ⊢
  have HLC := Lib.hid LC
  have HND := Lib.hid hnd
  have HOU := Lib.hid hou
  have HFL := Lib.hid hfl
  have HWP := Lib.hid (@wrongE_pre g)
  have HGA : Hid (w.grownBy (w.alloc (.cells #[.int .i64 ins, .slice na N nc, .slice oa M oc] 25)) none) := grown_alloc (grown_refl _ _) _
  have HAB : Hid ((w.alloc (.cells #[.int .i64 ins, .slice na N nc, .slice oa M oc] 25)).heap[w.heap.size]? = some (.cells #[.int .i64 ins, .slice na N nc, .slice oa M oc] 25 (0, 0))) := heap_alloc_new _ _
  obtain ⟨E, hE⟩ : ∃ E, wrongE g = E := ⟨_, rfl⟩
  have HE := Lib.hid hE
  rw [hE]
  clear hnd hou hfl hN hM hins LC hE
  go_enter Try.func8, Try.ntmps8
  by_cases h1 : 256 < N
  · have HE2 := Lib.hid (P5.out (.inl (by rw [HN.out]; exact h1)))
    have HE3 : Hid (E = 5) := by unfold Hid; rw [← HE.out, HWP.out (by rw [HE2.out]; decide), HE2.out]
    have h1i : (256 : Int) < (N : Int) := by omega
    go_wp2_with fail
    go_ret
    exact ⟨by rw [HE3.out]; rfl, HGA.out⟩
  have h1i : ¬ (256 : Int) < (N : Int) := by omega
  by_cases h2 : 256 < M
  · have HE2 := Lib.hid (P5.out (.inr (.inl (by rw [HM.out]; exact h2))))
    have HE3 : Hid (E = 5) := by unfold Hid; rw [← HE.out, HWP.out (by rw [HE2.out]; decide), HE2.out]
    have h2i : (256 : Int) < (M : Int) := by omega
    go_wp2_with fail
    go_ret
    exact ⟨by rw [HE3.out]; rfl, HGA.out⟩
  have h2i : ¬ (256 : Int) < (M : Int) := by omega
  by_cases h3 : ins < 0
  · have HE2 := Lib.hid (P5.out (.inr (.inr (.inl (by rw [HI.out]; exact h3)))))
    have HE3 : Hid (E = 5) := by unfold Hid; rw [← HE.out, HWP.out (by rw [HE2.out]; decide), HE2.out]
    go_wp2_with fail
    go_ret
    exact ⟨by rw [HE3.out]; rfl, HGA.out⟩
  by_cases h4 : 16 < ins
  · have HE2 := Lib.hid (P5.out (.inr (.inr (.inr (by rw [HI.out]; exact h4)))))
    have HE3 : Hid (E = 5) := by unfold Hid; rw [← HE.out, HWP.out (by rw [HE2.out]; decide), HE2.out]
    go_wp2_with fail
    go_ret
    exact ⟨by rw [HE3.out]; rfl, HGA.out⟩
  go_upto_region 3 with fail
  obtain ⟨wa, hwa⟩ : ∃ wa, w.alloc (.cells #[.int .i64 ins, .slice na N nc, .slice oa M oc] 25) = wa := ⟨_, rfl⟩
  obtain ⟨aB, haB⟩ : ∃ aB, w.heap.size = aB := ⟨_, rfl⟩
  rw [hwa] at HGA HAB
  rw [haB] at HAB
  simp only [hwa, haB]
  clear hwa haB
  have e1 := cell_of HAB.out 1
  go_wp2_with fail
  go_loopw [4, 5, 31] (fun v4 v5 v31 wr => ∃ k : Nat, k ≤ N ∧ v31 = .int .i64 (k : Int) ∧ Hid (wa.grownBy wr none) ∧ Hid (∀ x ∈ g.nodes.take k, madeE g x = 0) ∧ Hid (firstE g g.nodes = firstE g (g.nodes.drop k))) (fun _ _ v31 _ => N - (intOf v31).toNat)
  case atStart => exact ⟨0, Nat.zero_le _, rfl, grown_refl _ _, fun x hx => by simp at hx, rfl⟩
  case round =>
    obtain ⟨k, hk, rfl, HGR, HOK, HFI⟩ := hrel
    obtain ⟨wz, hwz⟩ : ∃ wz : World, wz = wr := ⟨_, rfl⟩
    subst hwz
    clear e1
    by_cases hkN : k = N
    · have h2 := hkN.symm
      subst h2
      clear hkN
      have HMO : Hid (∀ x ∈ g.nodes, madeE g x = 0) := fun x hx => HOK.out x (by rw [List.take_of_length_le (Nat.le_of_eq HN.out)]; exact hx)
      have HP0 : Hid (preE g = if g.outs.any (badRef N) = true then 8 else 0) := by
        have h0 : firstE g g.nodes = 0 := by
          rw [HFI.out, List.drop_of_length_le (Nat.le_of_eq HN.out)]
          rfl
        unfold Hid preE
        rw [if_neg (by rw [HN.out, HM.out, HI.out]; omega), if_neg (by rw [h0]; simp), HN.out]
      have e0 := grown_cell HGR.out (cell_of HAB.out 0) (by simp)
      have e2 := grown_cell HGR.out (cell_of HAB.out 2) (by simp)
      have e1 := grown_cell HGR.out (cell_of HAB.out 1) (by simp)
      have HGW : Hid (w.grownBy wz none) := grown_trans HGA.out HGR.out
      go_upto_region 11 with fail
      go_loopw [7, 45] (fun v7 v45 wr => ∃ q : Nat, q ≤ M ∧ v45 = .int .i64 (q : Int) ∧ wz = wr ∧ Hid (g.outs.any (badRef N) = (g.outs.drop q).any (badRef N))) (fun _ v45 _ => M - (intOf v45).toNat)
      case atStart => exact ⟨0, Nat.zero_le _, rfl, rfl, rfl⟩
      case round =>
        obtain ⟨q, hq, rfl, hwr, HAN⟩ := hrel
        subst hwr
        by_cases hqM : q = M
        · have h2 := hqM.symm
          subst h2
          clear hqM
          have HAF : Hid (g.outs.any (badRef N) = false) := by
            unfold Hid
            rw [HAN.out, List.drop_of_length_le (Nat.le_of_eq HM.out)]
            rfl
          have HPZ : Hid (preE g = 0) := by
            unfold Hid
            rw [HP0.out, HAF.out]
            rfl
          have LC1 := Lib.hid (HLC.out wz (HND.out.fr (X := fun _ => False) (.none HGW.out) (fun _ _ => id)) (by omega) (fun x hx => (HFL.out x hx).1) (fun x hx => by rw [← HN.out]; exact (made_ok (HMO.out x hx)).2.2.1))
          obtain ⟨LB, hLB⟩ : ∃ LB, loopB g = LB := ⟨_, rfl⟩
          have HEL : Hid (E = if LB = true then 10 else 0) := by
            unfold Hid
            rw [← HE.out, wrongE_loop HPZ.out hLB]
          rw [hLB] at LC1
          clear hLB HLC
          go_upto_region 17 with (go_at_call 17; refine (LC1.out).mono ?_; rintro ez w2 ⟨rfl, hg2⟩; have HG2 := Lib.hid hg2; clear hg2; cases LB)
          · go_wp2_with fail
            go_ret
            exact ⟨by rw [HEL.out]; rfl, grown_trans HGW.out HG2.out.out⟩
          · go_wp2_with fail
            go_ret
            exact ⟨by rw [HEL.out]; rfl, grown_trans HGW.out HG2.out.out⟩
        have hql : (q : Int) < (M : Int) := by omega
        have hql2 : q < M := by omega
        have hwq : IntKind.i64.wrap ((q : Int) + 1) = (q : Int) + 1 := IntWalk.i64_in _ (by omega)
        obtain ⟨kz, hkz⟩ : ∃ kz, g.outs[q]? = some kz := ⟨g.outs[q]'(by rw [HM.out]; exact hql2), List.getElem?_eq_getElem _⟩
        obtain ⟨b6, o6, rfl, hA6, hcell⟩ := sla_at HOU.out hkz
        have u1 := grown_cell HGW.out (hcell 0 _ rfl) (by simp)
        rw [Nat.mul_one, Nat.add_zero] at u1
        have HD : Hid (g.outs.any (badRef N) = (badRef N kz || (g.outs.drop (q + 1)).any (badRef N))) := by
          unfold Hid
          rw [HAN.out]
          obtain ⟨hh, he⟩ := List.getElem?_eq_some_iff.1 hkz
          rw [List.drop_eq_getElem_cons hh, he]
          rfl
        clear hcell hkz
        by_cases hb1 : kz < 0
        · have HE2 : Hid (preE g = 8) := by unfold Hid; rw [HP0.out, if_pos (by rw [HD.out]; simp [badRef, hb1])]
          have HE3 : Hid (E = 8) := by unfold Hid; rw [← HE.out, HWP.out (by rw [HE2.out]; decide), HE2.out]
          go_wp2_with fail
          go_ret
          exact ⟨by rw [HE3.out]; rfl, HGW.out⟩
        by_cases hb2 : (N : Int) ≤ kz
        · have HE2 : Hid (preE g = 8) := by unfold Hid; rw [HP0.out, if_pos (by rw [HD.out]; simp [badRef, hb2])]
          have HE3 : Hid (E = 8) := by unfold Hid; rw [← HE.out, HWP.out (by rw [HE2.out]; decide), HE2.out]
          go_wp2_with fail
          go_ret
          exact ⟨by rw [HE3.out]; rfl, HGW.out⟩
        have HD2 : Hid (g.outs.any (badRef N) = (g.outs.drop (q + 1)).any (badRef N)) := by
          unfold Hid
          rw [HD.out]
          simp [badRef, hb1, hb2]
        go_wp2_with fail
        refine ⟨?_, by simp [intOf]; omega⟩
        first
          | exact ⟨q + 1, by omega, rfl, trivial, HD2.out⟩
          | (repeat apply Exists.intro
             refine ⟨?_, rfl⟩
             exact ⟨q + 1, by omega, rfl, trivial, HD2.out⟩)
    have hkl : (k : Int) < (N : Int) := by omega
    have hkl2 : k < N := by omega
    have hwk : IntKind.i64.wrap ((k : Int) + 1) = (k : Int) + 1 := IntWalk.i64_in _ (by omega)
    obtain ⟨x, hx⟩ : ∃ x, g.nodes[k]? = some x := ⟨g.nodes[k]'(by rw [HN.out]; exact hkl2), List.getElem?_eq_getElem _⟩
    obtain ⟨b6, o6, fa, fc, rfl, hA6, hrg, _, hfs⟩ := nds_at HND.out hx
    have hfx := HFL.out x (List.mem_of_getElem? hx)
    have HX := Lib.hid hx
    have hGW := grown_trans HGA.out HGR.out
    have HGW := Lib.hid hGW
    have HFA := Lib.hid (first_at hx)
    have HMC := fun (v : World) (hv : wz.grownBy v none) => node_calls A0 g x (some ⟨b6, o6, none⟩) oa fa nc oc fc v (hfs.grown (grown_trans hGW hv)) (by omega) (by rw [HN.out]; omega) hfx.2
    rw [HN.out, HM.out, HI.out] at HMC
    obtain ⟨kind, fr, n, xx, ⟨b0, b1, b2, a1, a2⟩, ⟨shape, step, gain, att, dec, rel, sus⟩⟩ := x
    unfold gdV ndV at HMC
    dsimp only at HMC hfs hfx
    obtain ⟨F, hF⟩ : ∃ F, fr.length = F := ⟨_, rfl⟩
    have HF := Lib.hid hF
    rw [hF] at HMC hfs hfx hrg
    obtain ⟨x, hx2⟩ : ∃ x : Nd, (⟨kind, fr, n, xx, ⟨b0, b1, b2, a1, a2⟩, ⟨shape, step, gain, att, dec, rel, sus⟩⟩ : Nd) = x := ⟨_, rfl⟩
    rw [hx2] at HMC HFA HX
    have d0 := grown_cell hGW (hrg 0 _ rfl) (by simp)
    rw [Nat.add_zero] at d0
    have d1 := grown_cell hGW (hrg 1 _ rfl) (by simp)
    have d2 := grown_cell hGW (hrg 2 _ rfl) (by simp)
    have d3 := grown_cell hGW (hrg 3 _ rfl) (by simp)
    have d4 := grown_cell hGW (hrg 4 _ rfl) (by simp)
    have d5 := grown_cell hGW (hrg 5 _ rfl) (by simp)
    have d6 := grown_cell hGW (hrg 6 _ rfl) (by simp)
    have d7 := grown_cell hGW (hrg 7 _ rfl) (by simp)
    have d8 := grown_cell hGW (hrg 8 _ rfl) (by simp)
    have d9 := grown_cell hGW (hrg 9 _ rfl) (by simp)
    have d10 := grown_cell hGW (hrg 10 _ rfl) (by simp)
    have d11 := grown_cell hGW (hrg 11 _ rfl) (by simp)
    have d12 := grown_cell hGW (hrg 12 _ rfl) (by simp)
    have d13 := grown_cell hGW (hrg 13 _ rfl) (by simp)
    have d14 := grown_cell hGW (hrg 14 _ rfl) (by simp)
    have d15 := grown_cell hGW (hrg 15 _ rfl) (by simp)
    have e0 := grown_cell HGR.out (cell_of HAB.out 0) (by simp)
    have e1 := grown_cell HGR.out (cell_of HAB.out 1) (by simp)
    have e2 := grown_cell HGR.out (cell_of HAB.out 2) (by simp)
    have HC := Lib.hid HMC
    clear HMC hx hx2 hrg hfs hfx hGW hF
    go_upto_region 6 with fail
    have hgz5 : wz.grownBy (wz.alloc (.cells #[.int .i64 kind, .slice fa F fc, .int .i64 n, .float .f64 xx, .float .f64 b0, .float .f64 b1, .float .f64 b2, .float .f64 a1, .float .f64 a2, .int .i64 shape, .int .u32 step, .float .f64 gain, .int .i64 att, .int .i64 dec, .int .i64 rel, .int .i64 sus] 53)) none := grown_alloc (grown_refl _ _) _
    have hdb5 := heap_alloc_new wz (.cells #[.int .i64 kind, .slice fa F fc, .int .i64 n, .float .f64 xx, .float .f64 b0, .float .f64 b1, .float .f64 b2, .float .f64 a1, .float .f64 a2, .int .i64 shape, .int .u32 step, .float .f64 gain, .int .i64 att, .int .i64 dec, .int .i64 rel, .int .i64 sus] 53)
    obtain ⟨w5, hw5⟩ : ∃ w5, wz.alloc (.cells #[.int .i64 kind, .slice fa F fc, .int .i64 n, .float .f64 xx, .float .f64 b0, .float .f64 b1, .float .f64 b2, .float .f64 a1, .float .f64 a2, .int .i64 shape, .int .u32 step, .float .f64 gain, .int .i64 att, .int .i64 dec, .int .i64 rel, .int .i64 sus] 53) = w5 := ⟨_, rfl⟩
    rw [hw5] at hgz5 hdb5
    obtain ⟨dB, hdB⟩ : ∃ dB, wz.heap.size = dB := ⟨_, rfl⟩
    rw [hdB] at hdb5
    have HDB5 := Lib.hid hdb5
    have HG5 := Lib.hid hgz5
    simp only [hw5, hdB]
    replace e0 := grown_cell hgz5 e0 (by simp)
    replace e1 := grown_cell hgz5 e1 (by simp)
    replace e2 := grown_cell hgz5 e2 (by simp)
    have f0 := cell_of HDB5.out 0
    have f1 := cell_of HDB5.out 1
    have f2 := cell_of HDB5.out 2
    have f3 := cell_of HDB5.out 3
    have f4 := cell_of HDB5.out 4
    have f5 := cell_of HDB5.out 5
    have f6 := cell_of HDB5.out 6
    have f7 := cell_of HDB5.out 7
    have f8 := cell_of HDB5.out 8
    have f9 := cell_of HDB5.out 9
    have f10 := cell_of HDB5.out 10
    have f11 := cell_of HDB5.out 11
    have f12 := cell_of HDB5.out 12
    have f13 := cell_of HDB5.out 13
    have f14 := cell_of HDB5.out 14
    have f15 := cell_of HDB5.out 15
    have MC := Lib.hid (HC.out w5 hgz5)
    clear hw5 hdB hdb5 hgz5 HC d0 d1 d2 d3 d4 d5 d6 d7 d8 d9 d10 d11 d12 d13 d14 d15
    obtain ⟨Y, hY⟩ : ∃ Y, madeE g x = Y := ⟨_, rfl⟩
    have HY := Lib.hid hY
    rw [hY] at MC HFA
    clear hY
    go_upto_region 7 with (go_at_call 16; refine (MC.out).mono ?_; rintro ez w6 ⟨rfl, hg6⟩; have HG6 := Lib.hid hg6; clear hg6)
    by_cases hY0 : Y = 0
    · subst hY0
      have HOK2 : Hid (∀ y ∈ g.nodes.take (k + 1), madeE g y = 0) := fun y hy => by
        rw [take_next HX.out, List.mem_append, List.mem_singleton] at hy
        rcases hy with hy | rfl
        · exact HOK.out y hy
        · exact HY.out
      have HFI2 : Hid (firstE g g.nodes = firstE g (g.nodes.drop (k + 1))) := by
        unfold Hid
        rw [HFI.out, HFA.out]
        simp
      have HGN : Hid (wa.grownBy w6 none) := grown_trans HGR.out (grown_trans HG5.out HG6.out.out)
      go_wp2_with fail
      refine ⟨?_, by simp [intOf]; omega⟩
      first
        | exact ⟨k + 1, by omega, rfl, HGN.out, HOK2.out, HFI2.out⟩
        | (repeat apply Exists.intro
           refine ⟨?_, rfl⟩
           exact ⟨k + 1, by omega, rfl, HGN.out, HOK2.out, HFI2.out⟩)
    · have HFE : Hid (firstE g g.nodes = Y) := by
        unfold Hid
        rw [HFI.out, HFA.out, if_pos hY0]
      have HE2 : Hid (preE g = Y) := by
        unfold Hid preE
        rw [if_neg (by rw [HN.out, HM.out, HI.out]; omega), if_pos (by rw [HFE.out]; exact hY0), HFE.out]
      have HE3 : Hid (E = Y) := by unfold Hid; rw [← HE.out, HWP.out (by rw [HE2.out]; exact hY0), HE2.out]
      have hYb : (Y == 0) = false := by simpa using hY0
      have HGN : Hid (wa.grownBy w6 none) := grown_trans HGR.out (grown_trans HG5.out HG6.out.out)
      go_wp2_with fail
      go_ret
      exact ⟨by rw [HE3.out]; rfl, grown_trans HGA.out HGN.out⟩
end Go.Proofs.Ytdliilmnfbgplaa.GRWrong
