/- The reference's voice: Level, Sample. -/
import Derived.Test.YtadaegnkclleaaaVHeld
import Derived.Deep.RegionWith
import Derived.IntWalk
namespace Go.Proofs.Ytadaegnkclleaaa.VRefS
open Go Ieee Go.RowKit Go.Proofs.Ytadaegnkclleaaa.Rnd Go.Proofs.Ytadaegnkclleaaa.Flo Go.Proofs.Ytadaegnkclleaaa.VSin Go.Proofs.Ytadaegnkclleaaa.VShape Go.Proofs.Ytadaegnkclleaaa.VStepF Go.Proofs.Ytadaegnkclleaaa.VMod Go.Proofs.Ytadaegnkclleaaa.VWalk Go.Proofs.Ytadaegnkclleaaa.VLevel Go.Proofs.Ytadaegnkclleaaa.VRender Go.Proofs.Ytadaegnkclleaaa.VSing Go.Proofs.Ytadaegnkclleaaa.VHeld Go.Proofs.Ytadaegnkclleaaa.Hp Go.Proofs.Ytadaegnkclleaaa.Rd
set_option linter.unusedVariables false

set_option maxHeartbeats 2000000 in
set_option maxRecDepth 100000 in
theorem rlevel_calls (p : Pt) (t off : Int) (w : World) (hp : OkP p) (h0 : 0 ≤ t) (h1 : t ≤ 4611686018427387904) (ho : off = -1 ∨ 0 ≤ off ∧ off ≤ t) :
    Calls Try.prog 31 #[.agg #[.int .i64 p.shape, .int .u32 p.step, .float .f64 p.gain, .int .i64 p.att, .int .i64 p.dec, .int .i64 p.rel, .int .i64 p.sus], .int .i64 t, .int .i64 off] w fun e w' => e = .returned (.int .i64 (lvl p t off)) ∧ Hid (w.grownBy w' none) := by
  have HA := Lib.hid (fun t w h0 h1 => held_calls p t w hp h0 h1)
  have HLE := Lib.hid (fun t h => held_le hp (t := t) h)
  have HR := hp.rel
  have HLV : Hid (lvl p t off = if off < 0 then heldZ p t else if p.rel ≤ t - off then 0 else Int.tdiv (heldZ p off * (p.rel - (t - off))) p.rel) := rfl
  obtain ⟨shape, step, gain, att, dec, rel, sus⟩ := p
  simp only at HA HLE HR HLV
  have HGA : Hid (w.grownBy (w.alloc (.cells #[.int .i64 shape, .int .u32 step, .float .f64 gain, .int .i64 att, .int .i64 dec, .int .i64 rel, .int .i64 sus] 33)) none) := grown_alloc (grown_refl _ _) _
  obtain ⟨L, hL⟩ : ∃ L, lvl ⟨shape, step, gain, att, dec, rel, sus⟩ t off = L := ⟨_, rfl⟩
  rw [hL] at HLV ⊢
  clear hp hL
  obtain ⟨r0, r1⟩ := HR
  by_cases h2 : off < 0
  · have HX : Hid (L = heldZ ⟨shape, step, gain, att, dec, rel, sus⟩ t) := by unfold Hid; rw [HLV.out, if_pos h2]
    have H1 := HA.out t
    rw [← HX.out] at H1
    have H2 := Lib.hid (fun w => H1 w h0 h1)
    clear HLV HLE HA HX ho H1
    go_enter Try.func31, Try.ntmps31
    go_wp2_with fail
    refine (H2.out _).mono ?_
    rintro e w1 ⟨rfl, hg⟩
    have HG := Lib.hid (grown_trans HGA.out hg.out)
    clear hg HGA
    go_wp2_with fail
    go_ret
    exact ⟨rfl, HG.out⟩
  have ho1 : 0 ≤ off ∧ off ≤ t := by omega
  obtain ⟨ho1, ho2⟩ := ho1
  clear ho
  have hdf0 : 0 ≤ t - off := by omega
  obtain ⟨df, hdf⟩ : ∃ m, t - off = m := ⟨_, rfl⟩
  by_cases h3 : rel ≤ df
  · have HX : Hid (L = 0) := by unfold Hid; rw [HLV.out, if_neg h2, hdf, if_pos h3]
    have h4 : df ≤ 4611686018427387904 := by omega
    rw [hdf] at hdf0
    clear HLV HLE HA
    go_enter Try.func31, Try.ntmps31
    go_wp2_with fail
    go_ret
    exact ⟨by rw [HX.out]; rfl, HGA⟩
  · obtain ⟨l0, l1⟩ := HLE.out off ho1
    obtain ⟨Z, hZ⟩ : ∃ Z, heldZ ⟨shape, step, gain, att, dec, rel, sus⟩ off = Z := ⟨_, rfl⟩
    have HX : Hid (L = Int.tdiv (Z * (rel - df)) rel) := by unfold Hid; rw [HLV.out, if_neg h2, hdf, if_neg h3, hZ]
    have H1 := HA.out off
    rw [hZ] at H1 l0 l1
    have H2 := Lib.hid (fun w => H1 w ho1 (by omega))
    rw [hdf] at hdf0
    obtain ⟨q0, q1⟩ := mul_small (a := Z) (b := rel - df) l0 l1 (by omega) (by omega)
    obtain ⟨q2, q3⟩ := tdiv_le (a := Z * (rel - df)) (b := rel) (q := 1048576) q0 (by omega) (Int.mul_le_mul l1 (by omega) (by omega) (by omega))
    have hrf0 : 0 ≤ rel - df := by omega
    have hrf1 : rel - df ≤ 16777216 := by omega
    obtain ⟨rf, hrf⟩ : ∃ m, rel - df = m := ⟨_, rfl⟩
    rw [hrf] at HX q0 q1 q2 q3 hrf0 hrf1
    obtain ⟨m, hm⟩ : ∃ m, Z * rf = m := ⟨_, rfl⟩
    rw [hm] at HX q0 q1 q2 q3
    have hX := HX.out.symm
    rw [hX] at q2 q3
    have hr0 : ¬ rel = 0 := by omega
    have hr1 : (rel == 0) = false := by simpa using hr0
    clear HLV HLE HA HX H1 hZ
    go_enter Try.func31, Try.ntmps31
    go_upto_region 5 with fail
    obtain ⟨g, hg⟩ : ∃ g, w.heap.size = g := ⟨_, rfl⟩
    obtain ⟨wn, hwn⟩ : ∃ wn, w.alloc (.cells #[.int .i64 shape, .int .u32 step, .float .f64 gain, .int .i64 att, .int .i64 dec, .int .i64 rel, .int .i64 sus] 33) = wn := ⟨_, rfl⟩
    have hrow : wn.heap[g]? = some (.cells #[.int .i64 shape, .int .u32 step, .float .f64 gain, .int .i64 att, .int .i64 dec, .int .i64 rel, .int .i64 sus] 33 (0, 0)) := by
      rw [← hwn, ← hg]; exact heap_alloc_new _ _
    rw [hwn] at HGA
    simp only [hg, hwn]
    have c0 : wn.cell? ⟨g, 0, none⟩ = some (.int .i64 shape) := cell_of hrow 0
    have c1 : wn.cell? ⟨g, 1, none⟩ = some (.int .u32 step) := cell_of hrow 1
    have c2 : wn.cell? ⟨g, 2, none⟩ = some (.float .f64 gain) := cell_of hrow 2
    have c3 : wn.cell? ⟨g, 3, none⟩ = some (.int .i64 att) := cell_of hrow 3
    have c4 : wn.cell? ⟨g, 4, none⟩ = some (.int .i64 dec) := cell_of hrow 4
    have c5 : wn.cell? ⟨g, 5, none⟩ = some (.int .i64 rel) := cell_of hrow 5
    have c6 : wn.cell? ⟨g, 6, none⟩ = some (.int .i64 sus) := cell_of hrow 6
    have E1 : Hid (∀ w3, wn.drew.grownBy w3 none → w3.cell? ⟨g, 5, none⟩ = some (.int .i64 rel)) := fun w3 h => grown_cell h (p := ⟨g, 5, none⟩) c5 (by simp)
    clear hwn hg hrow
    have e1 : IntKind.i64.wrap df = df := IntWalk.i64_in _ (by omega)
    have e2 : IntKind.i64.wrap rf = rf := IntWalk.i64_in _ (by omega)
    have e3 : IntKind.i64.wrap m = m := IntWalk.i64_in _ (by omega)
    have e4 : IntKind.i64.wrap L = L := IntWalk.i64_in _ (by omega)
    go_region_with (go_at_call 33; refine (H2.out _).mono ?_; rintro e w3 ⟨rfl, hx⟩; have c7 := E1.out _ hx.out; have HX := Lib.hid hx.out; clear hx)
    all_goals
      go_wp2_with fail
      go_ret
      exact ⟨rfl, grown_trans (grown_drew HGA.out) HX.out⟩

end Go.Proofs.Ytadaegnkclleaaa.VRefS
