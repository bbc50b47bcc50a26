/- The reference's word on a node. -/
import Derived.Test.YtdliilmnfbgplaaGM8
import Derived.Test.YtdliilmnfbgplaaGM9
import Derived.Test.YtdliilmnfbgplaaGM10
namespace Go.Proofs.Ytdliilmnfbgplaa.GRNode
open Go Go.RowKit Go.Proofs.Ytdliilmnfbgplaa.Fl Go.Proofs.Ytdliilmnfbgplaa.Fw Go.Proofs.Ytdliilmnfbgplaa.GRd Go.Proofs.Ytdliilmnfbgplaa.GCells Go.Proofs.Ytdliilmnfbgplaa.GStep Go.Proofs.Ytdliilmnfbgplaa.GMod Go.Proofs.Ytdliilmnfbgplaa.GMem Go.Proofs.Ytdliilmnfbgplaa.GNode Go.Proofs.Ytdliilmnfbgplaa.GNode2 Go.Proofs.Ytdliilmnfbgplaa.GNode3 Go.Proofs.Ytdliilmnfbgplaa.GNode4 Go.Proofs.Ytdliilmnfbgplaa.GPMem Go.Proofs.Ytdliilmnfbgplaa.GPState Go.Proofs.Ytdliilmnfbgplaa.GSub Go.Proofs.Ytdliilmnfbgplaa.GMade Go.Proofs.Ytdliilmnfbgplaa.Hp Go.Proofs.Ytdliilmnfbgplaa.Rd Go.Proofs.Ytdliilmnfbgplaa.Opn Go.Proofs.Ytdliilmnfbgplaa
set_option linter.unusedVariables false
set_option linter.unusedSimpArgs false

set_option maxHeartbeats 1000000 in
set_option maxRecDepth 100000 in
theorem rmany_calls (k : Int) (w : World) : Calls Try.prog 27 #[.int .i64 k] w fun e w' => e = .returned (.int .i64 (manyZ k)) ∧ Hid (w.grownBy w' none) := by
  rcases many_cases k with rfl | rfl | rfl | rfl | rfl | rfl | rfl | rfl | ⟨hm, h1, h2, h3, h4, h5, h6, h7, h8⟩
  case inr.inr.inr.inr.inr.inr.inr.inr =>
    rw [hm]
    have HM := Lib.hid hm
    clear hm
    have b1 : (k == 1) = false := by simpa using h1
    have b2 : (k == 2) = false := by simpa using h2
    have b3 : (k == 3) = false := by simpa using h3
    have b4 : (k == 4) = false := by simpa using h4
    have b5 : (k == 5) = false := by simpa using h5
    have b6 : (k == 6) = false := by simpa using h6
    have b7 : (k == 7) = false := by simpa using h7
    have b8 : (k == 8) = false := by simpa using h8
    go_enter Try.func27, Try.ntmps27
    go_wp2_with fail
    go_ret
    exact ⟨rfl, grown_refl _ _⟩
  all_goals
    go_enter Try.func27, Try.ntmps27
    go_wp2_with fail
    go_ret
    exact ⟨rfl, grown_refl _ _⟩

set_option maxHeartbeats 1000000 in
set_option maxRecDepth 100000 in
/-- A row's sample; nothing ahead of the first. -/
theorem past_calls (b o n c : Nat) (ao : Option Addr) (m cc : Nat) (i : Nat) (t : Int) (x : Nat) (w : World) (h : w.cell? ⟨b, o + i, none⟩ = some (.slice ao m cc)) (hi : i < n) (ht : t < 0 ∨ ∃ (b2 o2 k : Nat), t = (k : Int) ∧ k < m ∧ ao = some ⟨b2, o2, none⟩ ∧ w.cell? ⟨b2, o2 + k, none⟩ = some (.float .f64 x)) :
    Calls Try.prog 30 #[.slice (some ⟨b, o, none⟩) n c, .int .i64 (i : Int), .int .i64 t] w fun e w' => e = .returned (.float .f64 (if t < 0 then 0 else x)) ∧ w' = w := by
  by_cases h0 : t < 0
  · rw [if_pos h0]
    go_enter Try.func30, Try.ntmps30
    go_wp2_with fail
    go_ret
    exact ⟨rfl, rfl⟩
  · rw [if_neg h0]
    obtain ⟨b2, o2, k, rfl, hk, rfl, hc⟩ := ht.resolve_left h0
    have hi2 : (i : Int) < (n : Int) := by omega
    have hi0 : (0 : Int) ≤ (i : Int) := by omega
    have hk2 : (k : Int) < (m : Int) := by omega
    have hk0 : (0 : Int) ≤ (k : Int) := by omega
    go_enter Try.func30, Try.ntmps30
    go_wp2_with fail
    go_ret
    exact ⟨rfl, rfl⟩
set_option maxHeartbeats 4000000 in
set_option maxRecDepth 100000 in
theorem node_calls (A : Nat → Prop) (g : Gd) (x : Nd) (na oa fa : Option Addr) (nc oc fc : Nat) (w : World) (hf : SlA 1 iC w A (.slice fa x.from_.length fc) x.from_) (hfl : x.from_.length ≤ 1099511627776) (hnl : g.nodes.length ≤ 256) (hst : x.pt.step < 4294967296) :
    Calls Try.prog 16 #[gdV g.ins (.slice na g.nodes.length nc) (.slice oa g.outs.length oc), ndV x (.slice fa x.from_.length fc)] w fun e w' => e = .returned (.int .i64 (madeE g x)) ∧ Hid (w.grownBy w' none) := by
  obtain ⟨ins, nodes, outs⟩ := g
  obtain ⟨kind, fr, n, xx, ⟨b0, b1, b2, a1, a2⟩, ⟨shape, step, gain, att, dec, rel, sus⟩⟩ := x
  obtain ⟨N, hN⟩ : ∃ N, nodes.length = N := ⟨_, rfl⟩
  obtain ⟨M, hM⟩ : ∃ M, outs.length = M := ⟨_, rfl⟩
  obtain ⟨F, hF⟩ : ∃ F, fr.length = F := ⟨_, rfl⟩
  unfold gdV ndV
  dsimp only at *
  rw [hF] at hf hfl ⊢
  rw [hN] at hnl ⊢
  rw [hM]
  have HN := Lib.hid hN
  have HF := Lib.hid hF
  have HSL := Lib.hid hf
  clear hf hN hM hF
  have MC := fun w => Lib.hid (rmany_calls kind w)
  obtain ⟨w1, hw1⟩ : ∃ w1, (w.alloc (.cells #[.int .i64 ins, .slice na N nc, .slice oa M oc] 25)).alloc (.cells #[.int .i64 kind, .slice fa F fc, .int .i64 n, .float .f64 xx, .float .f64 b0, .float .f64 b1, .float .f64 b2, .float .f64 a1, .float .f64 a2, .int .i64 shape, .int .u32 step, .float .f64 gain, .int .i64 att, .int .i64 dec, .int .i64 rel, .int .i64 sus] 53) = w1 := ⟨_, rfl⟩
  have HG1 : Hid (w.grownBy w1 none) := by unfold Hid; rw [← hw1]; exact grown_alloc (grown_alloc (grown_refl _ _) _) _
  have HGB : Hid (w1.heap[w.heap.size]? = some (.cells #[.int .i64 ins, .slice na N nc, .slice oa M oc] 25 (0, 0))) := by unfold Hid; rw [← hw1]; exact alloc2_old _ _ _
  have HXB : Hid (w1.heap[w.heap.size + 1]? = some (.cells #[.int .i64 kind, .slice fa F fc, .int .i64 n, .float .f64 xx, .float .f64 b0, .float .f64 b1, .float .f64 b2, .float .f64 a1, .float .f64 a2, .int .i64 shape, .int .u32 step, .float .f64 gain, .int .i64 att, .int .i64 dec, .int .i64 rel, .int .i64 sus] 53 (0, 0))) := by unfold Hid; rw [← hw1]; exact alloc2_new _ _ _
  have CX := fun (v : World) (h : w1.grownBy v none) => Lib.hid (row_kept h HXB.out (by simp))
  have CG := fun (v : World) (h : w1.grownBy v none) => Lib.hid (row_kept h HGB.out (by simp))
  have HW1 := Lib.hid hw1
  clear hw1
  go_enter Try.func16, Try.ntmps16
  go_upto_region 2 with (go_at_call 27; refine ((MC _).out).mono ?_; rintro ez w2 ⟨rfl, hg2⟩)
  rw [HW1.out] at hg2
  obtain ⟨gB, hgB⟩ : ∃ gB, w.heap.size = gB := ⟨_, rfl⟩
  have HWS := Lib.hid hgB
  obtain ⟨MZ, hMZ⟩ : ∃ MZ, manyZ kind = MZ := ⟨_, rfl⟩
  have HMZ := Lib.hid hMZ
  have HG2 : Hid (w.grownBy w2 none) := grown_trans HG1.out hg2.out
  have rx := (CX w2 hg2.out).out
  have rg := (CG w2 hg2.out).out
  rw [hgB] at rx rg
  simp only [hgB, hMZ]
  have x0 := cell_of rx 0
  have x1 := cell_of rx 1
  have x2 := cell_of rx 2
  have x3 := cell_of rx 3
  have x4 := cell_of rx 4
  have x5 := cell_of rx 5
  have x6 := cell_of rx 6
  have x7 := cell_of rx 7
  have x8 := cell_of rx 8
  have x9 := cell_of rx 9
  have x10 := cell_of rx 10
  have x11 := cell_of rx 11
  have x12 := cell_of rx 12
  have x13 := cell_of rx 13
  have x14 := cell_of rx 14
  have x15 := cell_of rx 15
  have g0 := cell_of rg 0
  have g1 := cell_of rg 1
  clear HW1 hg2 MC CX CG HGB HXB HG1 rx rg hgB hMZ
  have HLT : Hid (w.heap.size ≤ w2.heap.size) := HG2.out.size
  by_cases hz2 : MZ = -2
  · have HE : Hid (madeE ⟨ins, nodes, outs⟩ ⟨kind, fr, n, xx, ⟨b0, b1, b2, a1, a2⟩, ⟨shape, step, gain, att, dec, rel, sus⟩⟩ = 1) := if_pos (HMZ.out.trans hz2)
    subst hz2
    go_wp2_with fail
    go_ret
    exact ⟨by rw [HE.out]; rfl, HG2.out⟩
  by_cases hz3 : 0 ≤ MZ ∧ MZ ≠ (F : Int)
  · have HE : Hid (madeE ⟨ins, nodes, outs⟩ ⟨kind, fr, n, xx, ⟨b0, b1, b2, a1, a2⟩, ⟨shape, step, gain, att, dec, rel, sus⟩⟩ = 5) := (if_neg (fun e => hz2 (HMZ.out.symm.trans e))).trans (if_pos (by
      show 0 ≤ manyZ kind ∧ manyZ kind ≠ (fr.length : Int)
      rw [HMZ.out, HF.out]
      exact hz3))
    obtain ⟨hz3a, hz3b⟩ := hz3
    go_wp2_with fail
    go_ret
    exact ⟨by rw [HE.out]; rfl, HG2.out⟩
  have HZ3 := Lib.hid hz3
  have HE0 : Hid (madeE ⟨ins, nodes, outs⟩ ⟨kind, fr, n, xx, ⟨b0, b1, b2, a1, a2⟩, ⟨shape, step, gain, att, dec, rel, sus⟩⟩ = if fr.any (badRef N) = true then 8
      else if kind = 1 then (if n < 0 ∨ ins ≤ n then 3 else 0)
      else if kind = 6 then (if n < 1 ∨ 4096 < n then 3 else 0)
      else if kind = 7 then (if GFNew.okAll ⟨b0, b1, b2, a1, a2⟩ = true then 0 else 3)
      else if kind = 8 then GVMod.wrongP ⟨shape, step, gain, att, dec, rel, sus⟩
      else 0) := (if_neg (fun e => hz2 (HMZ.out.symm.trans e))).trans ((if_neg (by
        show ¬ (0 ≤ manyZ kind ∧ manyZ kind ≠ (fr.length : Int))
        rw [HMZ.out, HF.out]
        exact hz3)).trans (by rw [← HN.out]))
  have hz4 : ¬ (0 ≤ MZ) ∨ MZ = (F : Int) := by
    by_cases e : 0 ≤ MZ
    · exact .inr (Classical.byContradiction fun e2 => hz3 ⟨e, e2⟩)
    · exact .inl e
  clear hz3
  go_upto_region 4 with fail
  go_cut [21] from 12 (fun c wx => c = .bool false ∧ w2 = wx)
  case first =>
    rcases hz4 with e | e
    · go_wp2_with fail
      go_meet
      exact ⟨rfl, rfl⟩
    · have e0 : 0 ≤ MZ := by omega
      have HE := Lib.hid e
      clear e
      go_wp2_with fail
      go_meet
      refine ⟨?_, rfl⟩
      simp
      exact HE.out
  obtain ⟨rfl, hwc⟩ := hcut
  subst hwc
  clear hz4
  go_wp2_with fail
  go_loopw [7, 25] (fun v7 v25 wr => ∃ k : Nat, k ≤ F ∧ v25 = .int .i64 (k : Int) ∧ w2 = wr ∧ Hid (fr.any (badRef N) = (fr.drop k).any (badRef N))) (fun _ v25 _ => F - (intOf v25).toNat)
  case atStart => exact ⟨0, Nat.zero_le _, rfl, rfl, rfl⟩
  case round =>
    obtain ⟨k, hk, rfl, hwr, HAN⟩ := hrel
    subst hwr
    by_cases hkF : k = F
    · subst hkF
      have HOK : Hid (fr.any (badRef N) = false) := by
        unfold Hid
        rw [HAN.out, List.drop_of_length_le (Nat.le_of_eq HF.out)]
        rfl
      rw [HOK.out] at HE0
      rcases many_cases kind with rfl | rfl | rfl | rfl | rfl | rfl | rfl | rfl | ⟨hm, _⟩
      · by_cases h1 : n < 0
        · have HE : Hid (madeE ⟨ins, nodes, outs⟩ ⟨1, fr, n, xx, ⟨b0, b1, b2, a1, a2⟩, ⟨shape, step, gain, att, dec, rel, sus⟩⟩ = 3) := HE0.out.trans (by simp [h1])
          go_wp2_with fail
          go_ret
          exact ⟨by rw [HE.out]; rfl, HG2.out⟩
        by_cases h2 : ins ≤ n
        · have HE : Hid (madeE ⟨ins, nodes, outs⟩ ⟨1, fr, n, xx, ⟨b0, b1, b2, a1, a2⟩, ⟨shape, step, gain, att, dec, rel, sus⟩⟩ = 3) := HE0.out.trans (by simp [h2])
          go_wp2_with fail
          go_ret
          exact ⟨by rw [HE.out]; rfl, HG2.out⟩
        have HE : Hid (madeE ⟨ins, nodes, outs⟩ ⟨1, fr, n, xx, ⟨b0, b1, b2, a1, a2⟩, ⟨shape, step, gain, att, dec, rel, sus⟩⟩ = 0) := HE0.out.trans (by simp [h1, h2])
        have h2b : n < ins := by omega
        obtain ⟨nn, rfl⟩ : ∃ nn : Nat, n = (nn : Int) := Int.eq_ofNat_of_zero_le (by omega)
        go_wp2_with fail
        go_ret
        exact ⟨by rw [HE.out]; rfl, HG2.out⟩
      · have HE : Hid (madeE ⟨ins, nodes, outs⟩ ⟨2, fr, n, xx, ⟨b0, b1, b2, a1, a2⟩, ⟨shape, step, gain, att, dec, rel, sus⟩⟩ = 0) := HE0.out.trans (by simp)
        go_wp2_with fail
        go_ret
        exact ⟨by rw [HE.out]; rfl, HG2.out⟩
      · have HE : Hid (madeE ⟨ins, nodes, outs⟩ ⟨3, fr, n, xx, ⟨b0, b1, b2, a1, a2⟩, ⟨shape, step, gain, att, dec, rel, sus⟩⟩ = 0) := HE0.out.trans (by simp)
        go_wp2_with fail
        go_ret
        exact ⟨by rw [HE.out]; rfl, HG2.out⟩
      · have HE : Hid (madeE ⟨ins, nodes, outs⟩ ⟨4, fr, n, xx, ⟨b0, b1, b2, a1, a2⟩, ⟨shape, step, gain, att, dec, rel, sus⟩⟩ = 0) := HE0.out.trans (by simp)
        go_wp2_with fail
        go_ret
        exact ⟨by rw [HE.out]; rfl, HG2.out⟩
      · have HE : Hid (madeE ⟨ins, nodes, outs⟩ ⟨5, fr, n, xx, ⟨b0, b1, b2, a1, a2⟩, ⟨shape, step, gain, att, dec, rel, sus⟩⟩ = 0) := HE0.out.trans (by simp)
        go_wp2_with fail
        go_ret
        exact ⟨by rw [HE.out]; rfl, HG2.out⟩
      · by_cases h1 : n < 1
        · have HE : Hid (madeE ⟨ins, nodes, outs⟩ ⟨6, fr, n, xx, ⟨b0, b1, b2, a1, a2⟩, ⟨shape, step, gain, att, dec, rel, sus⟩⟩ = 3) := HE0.out.trans (by simp [h1])
          go_wp2_with fail
          go_ret
          exact ⟨by rw [HE.out]; rfl, HG2.out⟩
        by_cases h2 : 4096 < n
        · have HE : Hid (madeE ⟨ins, nodes, outs⟩ ⟨6, fr, n, xx, ⟨b0, b1, b2, a1, a2⟩, ⟨shape, step, gain, att, dec, rel, sus⟩⟩ = 3) := HE0.out.trans (by simp [h2])
          go_wp2_with fail
          go_ret
          exact ⟨by rw [HE.out]; rfl, HG2.out⟩
        have HE : Hid (madeE ⟨ins, nodes, outs⟩ ⟨6, fr, n, xx, ⟨b0, b1, b2, a1, a2⟩, ⟨shape, step, gain, att, dec, rel, sus⟩⟩ = 0) := HE0.out.trans (by simp [h1, h2])
        obtain ⟨nn, rfl⟩ : ∃ nn : Nat, n = (nn : Int) := Int.eq_ofNat_of_zero_le (by omega)
        go_wp2_with fail
        go_ret
        exact ⟨by rw [HE.out]; rfl, HG2.out⟩
      · have HE : Hid (madeE ⟨ins, nodes, outs⟩ ⟨7, fr, n, xx, ⟨b0, b1, b2, a1, a2⟩, ⟨shape, step, gain, att, dec, rel, sus⟩⟩ = if GFNew.okAll ⟨b0, b1, b2, a1, a2⟩ = true then 0 else 3) := HE0.out.trans (by simp)
        cases hok : GFNew.okAll ⟨b0, b1, b2, a1, a2⟩ with
        | true =>
          have HE2 := HE.out.trans (if_pos hok)
          have FC := fun w => Lib.hid (GFNew.refwrong_ok ⟨b0, b1, b2, a1, a2⟩ w hok)
          clear hok
          go_wp2_with (go_at_call 28; refine ((FC _).out).mono ?_; rintro ez w3 ⟨rfl, hg3⟩; have HG3 := Lib.hid hg3; clear hg3; have x0 := grown_cell HG3.out x0 (by simp))
          go_ret
          exact ⟨by rw [HE2]; rfl, grown_trans HG2.out HG3.out⟩
        | false =>
          have HE2 := HE.out.trans (if_neg (by rw [hok]; exact Bool.false_ne_true))
          have FC := fun w => Lib.hid (GFNew.refwrong_no ⟨b0, b1, b2, a1, a2⟩ w hok)
          clear hok
          go_wp2_with (go_at_call 28; refine ((FC _).out).mono ?_; rintro ez w3 ⟨rfl, hg3⟩; have HG3 := Lib.hid hg3; clear hg3)
          go_ret
          exact ⟨by rw [HE2]; rfl, grown_trans HG2.out HG3.out⟩
      · have HE : Hid (madeE ⟨ins, nodes, outs⟩ ⟨8, fr, n, xx, ⟨b0, b1, b2, a1, a2⟩, ⟨shape, step, gain, att, dec, rel, sus⟩⟩ = GVMod.wrongP ⟨shape, step, gain, att, dec, rel, sus⟩) := HE0.out.trans (by simp)
        have VC := fun w => Lib.hid (GVRefW.wrong_calls ⟨shape, step, gain, att, dec, rel, sus⟩ w)
        go_wp2_with (go_at_call 29; refine ((VC _).out).mono ?_; rintro ez w3 ⟨rfl, hg3⟩)
        go_ret
        exact ⟨by rw [HE.out]; rfl, grown_trans HG2.out hg3.out⟩
      · exact absurd (HMZ.out.symm.trans hm) hz2
    have hkl : (k : Int) < (F : Int) := by omega
    have hkl2 : k < F := by omega
    have hwk : IntKind.i64.wrap ((k : Int) + 1) = (k : Int) + 1 := IntWalk.i64_in _ (by omega)
    obtain ⟨kz, hkz⟩ : ∃ kz, fr[k]? = some kz := ⟨fr[k]'(by rw [HF.out]; exact hkl2), List.getElem?_eq_getElem _⟩
    obtain ⟨b6, o6, rfl, hA6, hcell⟩ := sla_at HSL.out hkz
    have u1 := grown_cell HG2.out (hcell 0 _ rfl) (by simp)
    rw [Nat.mul_one, Nat.add_zero] at u1
    have HD : Hid (fr.any (badRef N) = (badRef N kz || (fr.drop (k + 1)).any (badRef N))) := by
      unfold Hid
      rw [HAN.out]
      obtain ⟨hh, he⟩ := List.getElem?_eq_some_iff.1 hkz
      rw [List.drop_eq_getElem_cons hh, he]
      rfl
    clear hcell hkz
    by_cases hb1 : kz < 0
    · have HE : Hid (madeE ⟨ins, nodes, outs⟩ ⟨kind, fr, n, xx, ⟨b0, b1, b2, a1, a2⟩, ⟨shape, step, gain, att, dec, rel, sus⟩⟩ = 8) := HE0.out.trans (if_pos (by rw [HD.out]; simp [badRef, hb1]))
      go_wp2_with fail
      go_ret
      exact ⟨by rw [HE.out]; rfl, HG2.out⟩
    by_cases hb2 : (N : Int) ≤ kz
    · have HE : Hid (madeE ⟨ins, nodes, outs⟩ ⟨kind, fr, n, xx, ⟨b0, b1, b2, a1, a2⟩, ⟨shape, step, gain, att, dec, rel, sus⟩⟩ = 8) := HE0.out.trans (if_pos (by rw [HD.out]; simp [badRef, hb2]))
      go_wp2_with fail
      go_ret
      exact ⟨by rw [HE.out]; rfl, HG2.out⟩
    have HD2 : Hid (fr.any (badRef N) = (fr.drop (k + 1)).any (badRef N)) := by
      unfold Hid
      rw [HD.out]
      simp [badRef, hb1, hb2]
    go_wp2_with fail
    refine ⟨?_, by simp [intOf]; omega⟩
    first
      | exact ⟨k + 1, by omega, rfl, trivial, HD2.out⟩
      | (repeat apply Exists.intro
         refine ⟨?_, rfl⟩
         exact ⟨k + 1, by omega, rfl, trivial, HD2.out⟩)

end Go.Proofs.Ytdliilmnfbgplaa.GRNode
