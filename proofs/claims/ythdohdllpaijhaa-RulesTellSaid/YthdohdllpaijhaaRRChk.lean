/- Check and Same, the reference's: the walks. -/
import Derived.Test.YthdohdllpaijhaaRBrk
import Derived.Test.YthdohdllpaijhaaRRWrong
import Derived.Test.YthdohdllpaijhaaRLess
namespace Go.Proofs.Ythdohdllpaijhaa.RRChk
open Go Go.RowKit Go.Proofs.Ythdohdllpaijhaa.RMod Go.Proofs.Ythdohdllpaijhaa.RBrk Go.Proofs.Ythdohdllpaijhaa.RRWrong Go.Proofs.Ythdohdllpaijhaa.RCheck Go.Proofs.Ythdohdllpaijhaa.RLess Go.Proofs.Ythdohdllpaijhaa.RAlone Go.Proofs.Ythdohdllpaijhaa.Hp Go.Proofs.Ythdohdllpaijhaa.Rd
set_option linter.unusedVariables false
set_option linter.unusedSimpArgs false

theorem chk_zero {r : Ru} {g l : List Int} {k : Nat} (h : ∀ j, j < k → brkZ r g l j = 0) : chkW r g l k = 0 ∧ chkP r g l k = 0 := by
  induction k with
  | zero => exact ⟨rfl, rfl⟩
  | succ k ih =>
    obtain ⟨h1, h2⟩ := ih fun j hj => h j (by omega)
    have h3 := h k (by omega)
    unfold chkW chkP
    rw [if_neg (fun x => x.1 h3), if_neg (fun x => x.1 h3)]
    exact ⟨h1, h2⟩

/-- The first thing that is broken: what is behind it does not count. -/
theorem chk_first {r : Ru} {g l : List Int} {k : Nat} (h : ∀ j, j < k → brkZ r g l j = 0) (hb : brkZ r g l k ≠ 0) : ∀ m, k < m → chkW r g l m = brkZ r g l k ∧ chkP r g l m = (k : Int)
  | m + 1, hm => by
    by_cases e : m = k
    · subst e
      obtain ⟨h1, h2⟩ := chk_zero h
      unfold chkW chkP
      rw [if_pos ⟨hb, h1⟩, if_pos ⟨hb, h1⟩]
      exact ⟨rfl, rfl⟩
    · obtain ⟨h1, h2⟩ := chk_first h hb m (by omega)
      unfold chkW chkP
      rw [if_neg (fun x => hb (by rw [← h1]; exact x.2)), if_neg (fun x => hb (by rw [← h1]; exact x.2))]
      exact ⟨h1, h2⟩

set_option maxHeartbeats 4000000 in
set_option maxRecDepth 100000 in
theorem rcheck_calls (r : Ru) (a1 a2 : Option Addr) (c1 c2 : Nat) (g l : List Int) (w : World) (hl63 : l.length < 9223372036854775807) (hg63 : g.length < 9223372036854775807) (hv : Ils w (.slice a1 g.length c1) g) (hl : Ils w (.slice a2 l.length c2) l) :
    Calls Try.prog 13 #[.agg #[.int .i64 r.low, .int .i64 r.high, .bool r.above, .int .i64 r.leap, .int .i64 r.classes], .slice a1 g.length c1, .slice a2 l.length c2] w
      fun e w' => e = .returned (.tuple #[.int .i64 (chkA r g l), .int .i64 (chkB r g l), .int .i64 (chkE r g l)]) ∧ Hid (w.grownBy w' none) := by
  have W1 := Lib.hid (fun w' hg => rwrong_calls r a1 c1 g w' (Ils.grown hv hg))
  have HG0 : Hid (w.grownBy (w.alloc (.cells #[.int .i64 r.low, .int .i64 r.high, .bool r.above, .int .i64 r.leap, .int .i64 r.classes] 23)) none) := grown_alloc (grown_refl _ _) _
  have BC0 := fun (hok : OkG r g) w' (i : Nat) (hi : i < g.length) (hil : i < l.length) (hll : l.length ≤ 64) hg (hk : 0 ≤ at_ l i ∧ at_ l i ≤ 127) hk1 => breaks_calls r a1 a2 c1 c2 g l i w' hok (Ils.grown hv hg) (Ils.grown hl hg) hi hil hll hk hk1
  have HL := Lib.hid hl
  obtain ⟨VA, hVA⟩ : ∃ x, chkA r g l = x := ⟨_, rfl⟩
  obtain ⟨VB, hVB⟩ : ∃ x, chkB r g l = x := ⟨_, rfl⟩
  obtain ⟨VE, hVE⟩ : ∃ x, chkE r g l = x := ⟨_, rfl⟩
  have HE : Hid (VE = if wrongR r g = 0 then (if l.length ≠ g.length then 8 else if l.all keyB = true then 0 else 3) else wrongR r g) := hVE.symm
  have HA : Hid (VA = if VE = 0 then chkW r g l l.length else 0) := by unfold Hid; rw [← hVA, ← hVE]; rfl
  have HB : Hid (VB = if VE = 0 then chkP r g l l.length else 0) := by unfold Hid; rw [← hVB, ← hVE]; rfl
  rw [hVA, hVB, hVE]
  by_cases h0 : wrongR r g = 0
  · have hok := okG_of h0
    have hlen := hok.len
    have BC1 := BC0 hok
    rw [h0] at W1
    rw [if_pos h0] at HE
    by_cases hll : l.length = g.length
    · have BC := Lib.hid BC1
      have HE2 : Hid (VE = if l.all keyB = true then 0 else 3) := by rw [if_neg (fun h => h hll)] at HE; exact HE
      obtain ⟨n, hn⟩ : ∃ n, g.length = n := ⟨_, rfl⟩
      have HLN : Hid (l.length = n) := by unfold Hid; rw [hll, hn]
      rw [hll, hn] at HL HA HB BC ⊢
      rw [hn] at W1 hlen
      obtain ⟨bz, hbz⟩ : ∃ bz, brkZ r g l = bz := ⟨_, rfl⟩
      have HCZ : Hid (∀ k, (∀ j, j < k → bz j = 0) → chkW r g l k = 0 ∧ chkP r g l k = 0) := fun k h => chk_zero (by rw [hbz]; exact h)
      have HCF : Hid (∀ k, (∀ j, j < k → bz j = 0) → bz k ≠ 0 → k < n → chkW r g l n = bz k ∧ chkP r g l n = (k : Int)) := fun k h hb hk => by have := chk_first (r := r) (g := g) (l := l) (k := k) (by rw [hbz]; exact h) (by rw [hbz]; exact hb) n hk; rw [hbz] at this; exact this
      rw [hbz] at BC
      obtain ⟨cw, hcw⟩ : ∃ cw, chkW r g l = cw := ⟨_, rfl⟩
      obtain ⟨cp, hcp⟩ : ∃ cp, chkP r g l = cp := ⟨_, rfl⟩
      rw [hcw] at HA HCZ HCF
      rw [hcp] at HB HCZ HCF
      clear HE BC0 BC1 hl hv hl63 hg63 hVA hVB hVE h0 hok hll hn hbz hcw hcp
      obtain ⟨low, high, above, leap, classes⟩ := r
      simp only at W1 BC HG0 ⊢
      obtain ⟨gb, hgb⟩ : ∃ gb, w.heap.size = gb := ⟨_, rfl⟩
      have HR0 : Hid ((w.alloc (.cells #[.int .i64 low, .int .i64 high, .bool above, .int .i64 leap, .int .i64 classes] 23)).heap[gb]? = some (.cells #[.int .i64 low, .int .i64 high, .bool above, .int .i64 leap, .int .i64 classes] 23 (0, 0))) := by unfold Hid; rw [← hgb]; exact heap_alloc_new _ _
      have HGB := Lib.hid hgb
      clear hgb
      go_enter Try.func13, Try.ntmps13
      go_upto_region 2 with (go_at_call 11; refine (W1.out _ HG0.out).mono ?_; rintro e w1 ⟨rfl, hg1⟩)
      simp only [HGB.out]
      have HG1 : Hid (w.grownBy w1 none) := grown_trans HG0.out hg1.out
      have HR1 : Hid (w1.heap[gb]? = some (.cells #[.int .i64 low, .int .i64 high, .bool above, .int .i64 leap, .int .i64 classes] 23 (0, 0))) := by unfold Hid; rw [hg1.out.block gb (lt_of HR0.out) (by simp)]; exact HR0.out
      clear HG0 HR0 hg1
      go_wp2_with fail
      go_loop [27] (fun v27 => ∃ k : Nat, k ≤ n ∧ v27 = .int .i64 (k : Int) ∧ Hid (∀ j, j < k → 0 ≤ at_ l j ∧ at_ l j ≤ 127)) (fun v27 => n - (intOf v27).toNat)
      case atStart => exact ⟨0, Nat.zero_le _, rfl, fun j hj => absurd hj (by omega)⟩
      case round =>
        obtain ⟨k, hk, rfl, HK⟩ := hrel
        by_cases hke : k = n
        · subst hke
          have hall : Hid (VE = 0) := by
            unfold Hid
            rw [HE2.out, if_pos]
            rw [List.all_eq_true]
            intro x hx
            obtain ⟨j, hj, rfl⟩ := List.mem_iff_getElem.1 hx
            have := HK.out j (by rw [← HLN.out]; exact hj)
            unfold at_ at this
            rw [List.getD_eq_getElem?_getD, List.getElem?_eq_getElem hj] at this
            unfold keyB
            simpa using this
          go_wp2_with fail
          go_loopw [40] (fun v40 wr => ∃ i : Nat, i ≤ k ∧ v40 = .int .i64 (i : Int) ∧ Hid (∀ j, j < i → bz j = 0) ∧ Hid (w.grownBy wr none) ∧ Hid (wr.heap[gb]? = some (.cells #[.int .i64 low, .int .i64 high, .bool above, .int .i64 leap, .int .i64 classes] 23 (0, 0)))) (fun v40 _ => k - (intOf v40).toNat)
          case atStart => exact ⟨0, Nat.zero_le _, rfl, (fun j hj => absurd hj (by omega)), HG1.out, HR1.out⟩
          case round =>
            clear HG1 HR1
            obtain ⟨i, hi, rfl, HZ, HG, HR⟩ := hrel
            by_cases hie : i = k
            · subst hie
              obtain ⟨z1, z2⟩ := HCZ.out i HZ.out
              have HVA : Hid (VA = 0) := by unfold Hid; rw [HA.out, if_pos hall.out, z1]
              have HVB : Hid (VB = 0) := by unfold Hid; rw [HB.out, if_pos hall.out, z2]
              clear z1 z2
              go_wp2_with fail
              go_ret3
              exact ⟨by rw [HVA.out, HVB.out, hall.out]; rfl, HG.out⟩
            have hik : i < k := by omega
            have hik2 : (i : Int) < (k : Int) := by omega
            have r0 := cell_of HR.out 0
            have r1 := cell_of HR.out 1
            have r2 := cell_of HR.out 2
            have r3 := cell_of HR.out 3
            have r4 := cell_of HR.out 4
            have B1 := Lib.hid (BC.out _ i hik hik (by omega) HG.out (HK.out i hik) (fun _ => HK.out (i - 1) (by omega)))
            obtain ⟨z, hz⟩ : ∃ z, bz i = z := ⟨_, rfl⟩
            rw [hz] at B1
            have HZI := Lib.hid hz
            clear hz
            by_cases hz0 : z = 0
            · subst hz0
              go_wp2_with (go_at_call 21; refine (B1.out).mono ?_; rintro e w9 ⟨rfl, hg9⟩)
              have HZ2 : Hid (∀ j, j < i + 1 → bz j = 0) := fun j hj => by
                by_cases h : j = i
                · rw [h]; exact HZI.out
                · exact HZ.out j (by omega)
              refine ⟨?_, by simp [intOf]; omega⟩
              first
                | exact ⟨i + 1, by omega, rfl, HZ2.out, grown_trans HG.out hg9.out, by unfold Hid; rw [hg9.out.block gb (lt_of HR.out) (by simp)]; exact HR.out⟩
                | (repeat apply Exists.intro
                   refine ⟨?_, rfl⟩
                   exact ⟨i + 1, by omega, rfl, HZ2.out, grown_trans HG.out hg9.out, by unfold Hid; rw [hg9.out.block gb (lt_of HR.out) (by simp)]; exact HR.out⟩)
            · have hzb : (z != 0) = true := by simpa using hz0
              obtain ⟨z1, z2⟩ := HCF.out i HZ.out (by rw [HZI.out]; exact hz0) hik
              have HVA : Hid (VA = z) := by unfold Hid; rw [HA.out, if_pos hall.out, z1, HZI.out]
              have HVB : Hid (VB = (i : Int)) := by unfold Hid; rw [HB.out, if_pos hall.out, z2]
              clear z1 z2
              go_wp2_with (go_at_call 21; refine (B1.out).mono ?_; rintro e w9 ⟨rfl, hg9⟩)
              go_ret3
              exact ⟨by rw [HVA.out, HVB.out, hall.out]; rfl, grown_trans HG.out hg9.out⟩
        have hlt : k < n := by omega
        obtain ⟨b, off, rfl, hc⟩ := giv_at HL.out (i := k) (by rw [HLN.out]; exact hlt)
        have hcell := grown_cell HG1.out hc (by simp)
        have hki : (k : Int) < (n : Int) := by omega
        have HMEM : Hid (at_ l k ∈ l) := by
          unfold Hid at_
          rw [List.getD_eq_getElem?_getD, List.getElem?_eq_getElem (by rw [HLN.out]; exact hlt)]
          exact List.getElem_mem _
        obtain ⟨x, hx⟩ : ∃ x, at_ l k = x := ⟨_, rfl⟩
        rw [hx] at hcell HMEM
        have HXK := Lib.hid hx
        have HBADK : Hid (keyB x = false → VE = 3) := fun hb => by
          rw [HE2.out, if_neg]
          intro h
          rw [List.all_eq_true] at h
          rw [h x HMEM.out] at hb
          cases hb
        have HZ0 : Hid (VE = 3 → VA = 0 ∧ VB = 0) := fun h => ⟨by rw [HA.out, if_neg (by omega)], by rw [HB.out, if_neg (by omega)]⟩
        clear hc hx
        by_cases x0 : x < 0
        · have HX := Lib.hid (HBADK.out (by unfold keyB; simp; omega))
          go_wp2_with fail
          go_ret3
          exact ⟨by rw [(HZ0.out HX.out).1, (HZ0.out HX.out).2, HX.out]; rfl, HG1.out⟩
        by_cases x1 : 127 < x
        · have HX := Lib.hid (HBADK.out (by unfold keyB; simp; omega))
          go_wp2_with fail
          go_ret3
          exact ⟨by rw [(HZ0.out HX.out).1, (HZ0.out HX.out).2, HX.out]; rfl, HG1.out⟩
        have HK2 : Hid (∀ j, j < k + 1 → 0 ≤ at_ l j ∧ at_ l j ≤ 127) := fun j hj => by
          by_cases h : j = k
          · rw [h, HXK.out]; omega
          · exact HK.out j (by omega)
        go_wp2_with fail
        go_round
        case rel => exact ⟨k + 1, by omega, by go_num, HK2.out⟩
        case measure => simp [intOf]; omega
    · have HE2 : Hid (VE = 8) := by rw [if_pos hll] at HE; exact HE
      have HVA : Hid (VA = 0) := by unfold Hid; rw [HA.out, if_neg (by rw [HE2.out]; decide)]
      have HVB : Hid (VB = 0) := by unfold Hid; rw [HB.out, if_neg (by rw [HE2.out]; decide)]
      obtain ⟨n, hn⟩ : ∃ n, g.length = n := ⟨_, rfl⟩
      obtain ⟨m, hm⟩ : ∃ m, l.length = m := ⟨_, rfl⟩
      rw [hn] at W1 hg63 hll ⊢
      rw [hm] at hl63 hll ⊢
      have hmn : ((m : Int) != (n : Int)) = true := by rw [bne_iff_ne]; omega
      clear HE BC0 BC1 hl hv hVA hVB hVE h0 hok hn hm HL HA HB hlen
      obtain ⟨low, high, above, leap, classes⟩ := r
      simp only at W1 HG0 ⊢
      go_enter Try.func13, Try.ntmps13
      go_wp2_with (go_at_call 11; refine (W1.out _ HG0.out).mono ?_; rintro e w1 ⟨rfl, hg1⟩)
      go_ret3
      exact ⟨by rw [HVA.out, HVB.out, HE2.out]; rfl, grown_trans HG0.out hg1.out⟩
  · have HE2 : Hid (VE = wrongR r g) := by rw [if_neg h0] at HE; exact HE
    have HVA : Hid (VA = 0) := by unfold Hid; rw [HA.out, if_neg (by rw [HE2.out]; exact h0)]
    have HVB : Hid (VB = 0) := by unfold Hid; rw [HB.out, if_neg (by rw [HE2.out]; exact h0)]
    obtain ⟨R, hR⟩ : ∃ R, wrongR r g = R := ⟨_, rfl⟩
    obtain ⟨n, hn⟩ : ∃ n, g.length = n := ⟨_, rfl⟩
    obtain ⟨m, hm⟩ : ∃ m, l.length = m := ⟨_, rfl⟩
    rw [hR] at W1 h0 HE2
    rw [hn] at W1 ⊢
    rw [hm]
    have h0' : (R != 0) = true := by simpa using h0
    clear HE BC0 hl hv hVA hVB hVE hR hn hm HL HA HB hl63 hg63
    obtain ⟨low, high, above, leap, classes⟩ := r
    simp only at W1 HG0 ⊢
    go_enter Try.func13, Try.ntmps13
    go_wp2_with (go_at_call 11; refine (W1.out _ HG0.out).mono ?_; rintro e w1 ⟨rfl, hg1⟩)
    go_ret3
    exact ⟨by rw [HVA.out, HVB.out, HE2.out]; rfl, grown_trans HG0.out hg1.out⟩

theorem less_refl : ∀ l : List Int, lessL l l = true
  | [] => rfl
  | x :: l => by unfold lessL; rw [if_pos rfl]; exact less_refl l

set_option maxHeartbeats 1000000 in
theorem same_calls (a1 a2 : Option Addr) (c1 c2 : Nat) (l : List Int) (w : World) (hm : l.length < 9223372036854775807) (h1 : Ils w (.slice a1 l.length c1) l) (h2 : Ils w (.slice a2 l.length c2) l) :
    Calls Try.prog 16 #[.slice a1 l.length c1, .slice a2 l.length c2] w fun e w' => e = .returned (.bool true) ∧ Hid (w.grownBy w' none) := by
  have L1 := Lib.hid (less_calls a1 a2 c1 c2 l l w hm rfl h1 h2)
  have L2 := Lib.hid (fun w' (hg : w.grownBy w' none) => less_calls a2 a1 c2 c1 l l w' hm rfl (Ils.grown h2 hg) (Ils.grown h1 hg))
  rw [less_refl] at L1 L2
  obtain ⟨n, hn⟩ : ∃ n, l.length = n := ⟨_, rfl⟩
  rw [hn] at L1 L2 hm ⊢
  clear h1 h2 hn
  go_enter Try.func16, Try.ntmps16
  go_wp2_with (first
    | (go_at_call 17; ((with_reducible refine (L1.out).mono ?_); rintro e w1 ⟨rfl, hg1⟩))
    | (go_at_call 17; ((with_reducible refine (L2.out _ hg1.out).mono ?_); rintro e w2 ⟨rfl, hg2⟩)))
  go_ret
  exact ⟨rfl, grown_trans hg1.out hg2.out⟩
end Go.Proofs.Ythdohdllpaijhaa.RRChk
