/- Texts of the graph seat, in one file: GVRefS, GVRefW. -/
import Derived.Test.YtdliilmnfbgplaaGM2
import Derived.Deep.RegionWith
import Derived.IntWalk
/- The reference's voice: Level, Sample. -/
namespace Go.Proofs.Ytdliilmnfbgplaa.GVRefS
open Go Ieee Go.RowKit Go.Proofs.Ytdliilmnfbgplaa.Rnd Go.Proofs.Ytdliilmnfbgplaa.Flo Go.Proofs.Ytdliilmnfbgplaa.GVSin Go.Proofs.Ytdliilmnfbgplaa.GVShape Go.Proofs.Ytdliilmnfbgplaa.GVStepF Go.Proofs.Ytdliilmnfbgplaa.GVMod Go.Proofs.Ytdliilmnfbgplaa.GVWalk Go.Proofs.Ytdliilmnfbgplaa.GVLevel Go.Proofs.Ytdliilmnfbgplaa.GVRender Go.Proofs.Ytdliilmnfbgplaa.GVHeld Go.Proofs.Ytdliilmnfbgplaa.Hp Go.Proofs.Ytdliilmnfbgplaa.Rd
set_option linter.unusedVariables false

set_option maxHeartbeats 2000000 in
set_option maxRecDepth 100000 in
theorem rlevel_calls (p : Pt) (t off : Int) (w : World) (hp : OkP p) (h0 : 0 ≤ t) (h1 : t ≤ 4611686018427387904) (ho : off = -1 ∨ 0 ≤ off ∧ off ≤ t) :
    Calls Try.prog 39 #[.agg #[.int .i64 p.shape, .int .u32 p.step, .float .f64 p.gain, .int .i64 p.att, .int .i64 p.dec, .int .i64 p.rel, .int .i64 p.sus], .int .i64 t, .int .i64 off] w fun e w' => e = .returned (.int .i64 (lvl p t off)) ∧ Hid (w.grownBy w' none) := by
  have HA := Lib.hid (fun t w h0 h1 => held_calls p t w hp h0 h1)
  have HLE := Lib.hid (fun t h => held_le hp (t := t) h)
  have HR := hp.rel
  have HLV : Hid (lvl p t off = if off < 0 then heldZ p t else if p.rel ≤ t - off then 0 else Int.tdiv (heldZ p off * (p.rel - (t - off))) p.rel) := rfl
  obtain ⟨shape, step, gain, att, dec, rel, sus⟩ := p
  simp only at HA HLE HR HLV
  have HGA : Hid (w.grownBy (w.alloc (.cells #[.int .i64 shape, .int .u32 step, .float .f64 gain, .int .i64 att, .int .i64 dec, .int .i64 rel, .int .i64 sus] 51)) none) := grown_alloc (grown_refl _ _) _
  obtain ⟨L, hL⟩ : ∃ L, lvl ⟨shape, step, gain, att, dec, rel, sus⟩ t off = L := ⟨_, rfl⟩
  rw [hL] at HLV ⊢
  clear hp hL
  obtain ⟨r0, r1⟩ := HR
  by_cases h2 : off < 0
  · have HX : Hid (L = heldZ ⟨shape, step, gain, att, dec, rel, sus⟩ t) := by unfold Hid; rw [HLV.out, if_pos h2]
    have H1 := HA.out t
    rw [← HX.out] at H1
    have H2 := Lib.hid (fun w => H1 w h0 h1)
    clear HLV HLE HA HX ho H1
    go_enter Try.func39, Try.ntmps39
    go_wp2_with fail
    refine (H2.out _).mono ?_
    rintro e w1 ⟨rfl, hg⟩
    have HG := Lib.hid (grown_trans HGA.out hg.out)
    clear hg HGA
    go_wp2_with fail
    go_ret
    exact ⟨rfl, HG.out⟩
  have ho1 : 0 ≤ off ∧ off ≤ t := by omega
  obtain ⟨ho1, ho2⟩ := ho1
  clear ho
  have hdf0 : 0 ≤ t - off := by omega
  obtain ⟨df, hdf⟩ : ∃ m, t - off = m := ⟨_, rfl⟩
  by_cases h3 : rel ≤ df
  · have HX : Hid (L = 0) := by unfold Hid; rw [HLV.out, if_neg h2, hdf, if_pos h3]
    have h4 : df ≤ 4611686018427387904 := by omega
    rw [hdf] at hdf0
    clear HLV HLE HA
    go_enter Try.func39, Try.ntmps39
    go_wp2_with fail
    go_ret
    exact ⟨by rw [HX.out]; rfl, HGA⟩
  · obtain ⟨l0, l1⟩ := HLE.out off ho1
    obtain ⟨Z, hZ⟩ : ∃ Z, heldZ ⟨shape, step, gain, att, dec, rel, sus⟩ off = Z := ⟨_, rfl⟩
    have HX : Hid (L = Int.tdiv (Z * (rel - df)) rel) := by unfold Hid; rw [HLV.out, if_neg h2, hdf, if_neg h3, hZ]
    have H1 := HA.out off
    rw [hZ] at H1 l0 l1
    have H2 := Lib.hid (fun w => H1 w ho1 (by omega))
    rw [hdf] at hdf0
    obtain ⟨q0, q1⟩ := mul_small (a := Z) (b := rel - df) l0 l1 (by omega) (by omega)
    obtain ⟨q2, q3⟩ := tdiv_le (a := Z * (rel - df)) (b := rel) (q := 1048576) q0 (by omega) (Int.mul_le_mul l1 (by omega) (by omega) (by omega))
    have hrf0 : 0 ≤ rel - df := by omega
    have hrf1 : rel - df ≤ 16777216 := by omega
    obtain ⟨rf, hrf⟩ : ∃ m, rel - df = m := ⟨_, rfl⟩
    rw [hrf] at HX q0 q1 q2 q3 hrf0 hrf1
    obtain ⟨m, hm⟩ : ∃ m, Z * rf = m := ⟨_, rfl⟩
    rw [hm] at HX q0 q1 q2 q3
    have hX := HX.out.symm
    rw [hX] at q2 q3
    have hr0 : ¬ rel = 0 := by omega
    have hr1 : (rel == 0) = false := by simpa using hr0
    clear HLV HLE HA HX H1 hZ
    go_enter Try.func39, Try.ntmps39
    go_upto_region 5 with fail
    obtain ⟨g, hg⟩ : ∃ g, w.heap.size = g := ⟨_, rfl⟩
    obtain ⟨wn, hwn⟩ : ∃ wn, w.alloc (.cells #[.int .i64 shape, .int .u32 step, .float .f64 gain, .int .i64 att, .int .i64 dec, .int .i64 rel, .int .i64 sus] 51) = wn := ⟨_, rfl⟩
    have hrow : wn.heap[g]? = some (.cells #[.int .i64 shape, .int .u32 step, .float .f64 gain, .int .i64 att, .int .i64 dec, .int .i64 rel, .int .i64 sus] 51 (0, 0)) := by
      rw [← hwn, ← hg]; exact heap_alloc_new _ _
    rw [hwn] at HGA
    simp only [hg, hwn]
    have c0 : wn.cell? ⟨g, 0, none⟩ = some (.int .i64 shape) := cell_of hrow 0
    have c1 : wn.cell? ⟨g, 1, none⟩ = some (.int .u32 step) := cell_of hrow 1
    have c2 : wn.cell? ⟨g, 2, none⟩ = some (.float .f64 gain) := cell_of hrow 2
    have c3 : wn.cell? ⟨g, 3, none⟩ = some (.int .i64 att) := cell_of hrow 3
    have c4 : wn.cell? ⟨g, 4, none⟩ = some (.int .i64 dec) := cell_of hrow 4
    have c5 : wn.cell? ⟨g, 5, none⟩ = some (.int .i64 rel) := cell_of hrow 5
    have c6 : wn.cell? ⟨g, 6, none⟩ = some (.int .i64 sus) := cell_of hrow 6
    have E1 : Hid (∀ w3, wn.drew.grownBy w3 none → w3.cell? ⟨g, 5, none⟩ = some (.int .i64 rel)) := fun w3 h => grown_cell h (p := ⟨g, 5, none⟩) c5 (by simp)
    clear hwn hg hrow
    have e1 : IntKind.i64.wrap df = df := IntWalk.i64_in _ (by omega)
    have e2 : IntKind.i64.wrap rf = rf := IntWalk.i64_in _ (by omega)
    have e3 : IntKind.i64.wrap m = m := IntWalk.i64_in _ (by omega)
    have e4 : IntKind.i64.wrap L = L := IntWalk.i64_in _ (by omega)
    go_region_with (go_at_call 43; refine (H2.out _).mono ?_; rintro e w3 ⟨rfl, hx⟩; have c7 := E1.out _ hx.out; have HX := Lib.hid hx.out; clear hx)
    all_goals
      go_wp2_with fail
      go_ret
      exact ⟨rfl, grown_trans (grown_drew HGA.out) HX.out⟩

end Go.Proofs.Ytdliilmnfbgplaa.GVRefS

/- The reference's voice: Sample, Wrong. -/
namespace Go.Proofs.Ytdliilmnfbgplaa.GVRefW
open Go Ieee Go.RowKit Go.Proofs.Ytdliilmnfbgplaa.Rnd Go.Proofs.Ytdliilmnfbgplaa.Flo Go.Proofs.Ytdliilmnfbgplaa.GVSin Go.Proofs.Ytdliilmnfbgplaa.GVShape Go.Proofs.Ytdliilmnfbgplaa.GVStepF Go.Proofs.Ytdliilmnfbgplaa.GVMod Go.Proofs.Ytdliilmnfbgplaa.GVWalk Go.Proofs.Ytdliilmnfbgplaa.GVLevel Go.Proofs.Ytdliilmnfbgplaa.GVRender Go.Proofs.Ytdliilmnfbgplaa.GVHeld Go.Proofs.Ytdliilmnfbgplaa.GVRefS Go.Proofs.Ytdliilmnfbgplaa.Hp Go.Proofs.Ytdliilmnfbgplaa.Rd
set_option linter.unusedVariables false

theorem at_ho {p : Pt} {s : St} {t : Nat} {off : Int} (h : At p s t off) : off = -1 ∨ 0 ≤ off ∧ off ≤ t := by
  rcases h.off with ⟨h, _⟩ | ⟨o, h, h2, _⟩ <;> omega

theorem phase_mul (t step : Nat) : IntKind.u32.wrap (((t % 4294967296 : Nat) : Int) * (step : Int)) = ((t * step % 4294967296 : Nat) : Int) := by
  rw [← Int.natCast_mul, wrap_u32, Nat.mod_mul_mod]

set_option maxHeartbeats 2000000 in
set_option maxRecDepth 100000 in
theorem sample_calls (p : Pt) (s : St) (t : Nat) (off : Int) (w : World) (hp : OkP p) (hs : OkS s) (h : At p s t off) (h1 : t ≤ 4611686018427387904) :
    Calls Try.prog 31 #[.agg #[.int .i64 p.shape, .int .u32 p.step, .float .f64 p.gain, .int .i64 p.att, .int .i64 p.dec, .int .i64 p.rel, .int .i64 p.sus], .int .i64 t, .int .i64 off] w fun e w' => e = .returned (.float .f64 (smp p s)) ∧ Hid (w.grownBy w' none) := by
  obtain ⟨y, q, z, m1, m2, m3, m4, _⟩ := smp_some hp hs
  rw [m4]
  have hphase := hs.phase
  have hsc := Lib.hid (fun w => ref_shape p.shape s.phase w hphase)
  obtain ⟨xw, hxw⟩ : ∃ x, shapeW p.shape s.phase = x := ⟨_, rfl⟩
  obtain ⟨xe, hxe⟩ : ∃ x, shapeE p.shape = x := ⟨_, rfl⟩
  rw [hxw] at m1
  simp only [hxw, hxe] at hsc
  have hl := at_level hp h
  obtain ⟨L, hL⟩ : ∃ L, levelZ p s = L := ⟨_, rfl⟩
  rw [hL] at hl m2
  have hlv := fun w => rlevel_calls p t off w hp (by omega) (by omega) (at_ho h)
  rw [← hl] at hlv
  have HLV := Lib.hid hlv
  obtain ⟨nm, hnm⟩ : ∃ nm, floatOfInt FloatKind.f64 L = nm := ⟨_, rfl⟩
  have m2' : D.div nm c20 = some q := by rw [← hnm]; exact m2
  have a1 : FloatKind.f64.format.mul p.gain xw = some y := m1
  have a2 : FloatKind.f64.format.div nm 4697254411347427328 = some q := m2'
  have a3 : FloatKind.f64.format.mul y q = some z := m3
  have b1 := wrap_u32 t
  have b2 := phase_mul t p.step
  rw [← h.phase] at b2
  obtain ⟨u, hu⟩ : ∃ u, t % 4294967296 = u := ⟨_, rfl⟩
  obtain ⟨ph, hph⟩ : ∃ u, s.phase = u := ⟨_, rfl⟩
  rw [hu] at b1 b2
  rw [hph] at b2
  simp only [hph] at hsc
  obtain ⟨shape, step, gain, att, dec, rel, sus⟩ := p
  simp only at a1 b2 hsc
  have HGA : Hid (w.grownBy (w.alloc (.cells #[.int .i64 shape, .int .u32 step, .float .f64 gain, .int .i64 att, .int .i64 dec, .int .i64 rel, .int .i64 sus] 51)) none) := grown_alloc (grown_refl _ _) _
  clear m1 m2 m3 m4 m2' hL hl hlv hxw hxe hu hph hphase hp hs h
  go_enter Try.func31, Try.ntmps31
  go_wp2_with (go_at_call 38; refine (hsc.out _).mono ?_; rintro e w1 ⟨rfl, rfl⟩)
  refine (HLV.out _).mono ?_
  rintro e w1 ⟨rfl, hg⟩
  have HG := Lib.hid (grown_trans HGA.out hg.out)
  clear hg HGA
  go_wp2_with fail
  go_ret
  exact ⟨rfl, HG.out⟩

set_option maxHeartbeats 2000000 in
set_option maxRecDepth 100000 in
theorem wrong_calls (p : Pt) (w : World) :
    Calls Try.prog 29 #[.agg #[.int .i64 p.shape, .int .u32 p.step, .float .f64 p.gain, .int .i64 p.att, .int .i64 p.dec, .int .i64 p.rel, .int .i64 p.sus]] w fun e w' => e = .returned (.int .i64 (wrongP p)) ∧ Hid (w.grownBy w' none) := by
  obtain ⟨shape, step, gain, att, dec, rel, sus⟩ := p
  have HGA : Hid (w.grownBy (w.alloc (.cells #[.int .i64 shape, .int .u32 step, .float .f64 gain, .int .i64 att, .int .i64 dec, .int .i64 rel, .int .i64 sus] 51)) none) := grown_alloc (grown_refl _ _) _
  have HGB : Hid (w.grownBy ((w.alloc (.cells #[.int .i64 shape, .int .u32 step, .float .f64 gain, .int .i64 att, .int .i64 dec, .int .i64 rel, .int .i64 sus] 51)).alloc (.cells #[.int .i64 att, .int .i64 dec, .int .i64 rel] 3)) none) := grown_alloc HGA.out _
  obtain ⟨r, hr⟩ : ∃ r, wrongP ⟨shape, step, gain, att, dec, rel, sus⟩ = r := ⟨_, rfl⟩
  have HR : Hid (r = if shape < 1 ∨ 4 < shape then 1
  else if gainB gain = false ∨ stageB att = false ∨ stageB dec = false ∨ stageB rel = false ∨ sus < 0 ∨ 1048576 < sus then 3 else 0) := by unfold Hid; rw [← hr]; rfl
  rw [hr]
  clear hr
  by_cases q1 : shape < 1
  · have HX : Hid (r = 1) := by unfold Hid; rw [HR.out, if_pos (.inl q1)]
    clear HR HGB
    go_enter Try.func29, Try.ntmps29
    go_wp2_with fail
    go_ret
    exact ⟨by rw [HX.out]; rfl, HGA⟩
  by_cases q2 : 4 < shape
  · have HX : Hid (r = 1) := by unfold Hid; rw [HR.out, if_pos (.inr q2)]
    clear HR HGB
    go_enter Try.func29, Try.ntmps29
    go_wp2_with fail
    go_ret
    exact ⟨by rw [HX.out]; rfl, HGA⟩
  have HR2 : Hid (r = if gainB gain = false ∨ stageB att = false ∨ stageB dec = false ∨ stageB rel = false ∨ sus < 0 ∨ 1048576 < sus then 3 else 0) := by unfold Hid; rw [HR.out, if_neg (by omega)]
  clear HR
  have hgb : gainB gain = ((FloatKind.f64.format.order gain 13920626448202203136 == some .gt || FloatKind.f64.format.order gain 13920626448202203136 == some .eq) && (FloatKind.f64.format.order gain 4697254411347427328 == some .lt || FloatKind.f64.format.order gain 4697254411347427328 == some .eq)) := rfl
  obtain ⟨b1, hb1⟩ : ∃ b, (FloatKind.f64.format.order gain 13920626448202203136 == some .gt || FloatKind.f64.format.order gain 13920626448202203136 == some .eq) = b := ⟨_, rfl⟩
  obtain ⟨b2, hb2⟩ : ∃ b, (FloatKind.f64.format.order gain 4697254411347427328 == some .lt || FloatKind.f64.format.order gain 4697254411347427328 == some .eq) = b := ⟨_, rfl⟩
  rw [hb1, hb2] at hgb
  have HGT := Lib.hid hgb
  clear hgb
  cases b1 with
  | false =>
    have HX : Hid (r = 3) := by unfold Hid; rw [HR2.out, if_pos (.inl (by rw [HGT.out]; rfl))]
    clear HR2 HGT HGB
    go_enter Try.func29, Try.ntmps29
    go_wp2_with fail
    go_ret
    exact ⟨by rw [HX.out]; rfl, HGA⟩
  | true =>
  cases b2 with
  | false =>
    have HX : Hid (r = 3) := by unfold Hid; rw [HR2.out, if_pos (.inl (by rw [HGT.out]; rfl))]
    clear HR2 HGT HGB
    go_enter Try.func29, Try.ntmps29
    go_wp2_with fail
    go_ret
    exact ⟨by rw [HX.out]; rfl, HGA⟩
  | true =>
  have HR3 : Hid (r = if stageB att = false ∨ stageB dec = false ∨ stageB rel = false ∨ sus < 0 ∨ 1048576 < sus then 3 else 0) := by
    unfold Hid
    rw [HR2.out]
    have : gainB gain = true := HGT.out
    simp [this]
  clear HR2 HGT HGA
  obtain ⟨w2, hw2⟩ : ∃ w2, (w.alloc (.cells #[.int .i64 shape, .int .u32 step, .float .f64 gain, .int .i64 att, .int .i64 dec, .int .i64 rel, .int .i64 sus] 51)).alloc (.cells #[.int .i64 att, .int .i64 dec, .int .i64 rel] 3) = w2 := ⟨_, rfl⟩
  have hsz : (w.alloc (.cells #[.int .i64 shape, .int .u32 step, .float .f64 gain, .int .i64 att, .int .i64 dec, .int .i64 rel, .int .i64 sus] 51)).heap.size = w.heap.size + 1 := by simp
  have hnew := heap_alloc_new (w.alloc (.cells #[.int .i64 shape, .int .u32 step, .float .f64 gain, .int .i64 att, .int .i64 dec, .int .i64 rel, .int .i64 sus] 51)) (.cells #[.int .i64 att, .int .i64 dec, .int .i64 rel] 3)
  rw [hsz, hw2] at hnew
  have HEL : Hid (∀ k x, [att, dec, rel][k]? = some x → w2.cell? ⟨w.heap.size + 1, k, none⟩ = some (.int .i64 x)) := by
    intro k x hx
    rw [cell_of hnew]
    match k, hx with
    | 0, hx => simp at hx; subst hx; rfl
    | 1, hx => simp at hx; subst hx; rfl
    | 2, hx => simp at hx; subst hx; rfl
    | k + 3, hx => simp at hx
  have c6 : w2.cell? ⟨w.heap.size, 6, none⟩ = some (.int .i64 sus) := by
    rw [← hw2]
    refine grown_cell (grown_alloc (grown_refl _ none) _) (p := ⟨w.heap.size, 6, none⟩) ?_ (by simp)
    rw [cell_of (heap_alloc_new _ _)]
    rfl
  rw [hw2] at HGB
  clear hnew hsz
  go_enter Try.func29, Try.ntmps29
  go_wp2_with fail
  clear hw2
  obtain ⟨g1, hg1⟩ : ∃ g, w.heap.size + 1 = g := ⟨_, rfl⟩
  rw [hg1] at HEL
  go_loop [29] (fun i => ∃ k : Nat, k ≤ 3 ∧ i = .int .i64 k ∧ Hid (∀ i x, i < k → [att, dec, rel][i]? = some x → stageB x = true)) (fun i => 3 - (intOf i).toNat)
  case atStart => exact ⟨0, Nat.zero_le _, rfl, fun i x hi => by omega⟩
  case round =>
    obtain ⟨k, hk, rfl, HK⟩ := hrel
    by_cases hlt : k < 3
    · obtain ⟨x, hx⟩ : ∃ x, [att, dec, rel][k]? = some x := ⟨[att, dec, rel][k]'(by simpa using hlt), List.getElem?_eq_getElem _⟩
      have e0 := HEL.out k x hx
      have HSB : Hid (stageB x = (decide (0 ≤ x) && decide (x ≤ 16777216))) := rfl
      have HX3 : Hid (stageB x = false → r = 3) := by
        intro hb
        rw [HR3.out, if_pos]
        match k, hx with
        | 0, hx => simp at hx; subst hx; exact .inl hb
        | 1, hx => simp at hx; subst hx; exact .inr (.inl hb)
        | 2, hx => simp at hx; subst hx; exact .inr (.inr (.inl hb))
        | k + 3, hx => simp at hx
      have HXK := Lib.hid hx
      clear hx HEL c6 HR3
      by_cases p1 : x < 0
      · have HX : Hid (r = 3) := HX3.out (by rw [HSB.out, decide_eq_false (by omega)]; rfl)
        clear HX3 HSB
        go_wp2_with fail
        go_ret
        exact ⟨by rw [HX.out]; rfl, HGB⟩
      by_cases p2 : 16777216 < x
      · have HX : Hid (r = 3) := HX3.out (by rw [HSB.out, decide_eq_false (p := x ≤ 16777216) (by omega), Bool.and_false])
        clear HX3 HSB
        go_wp2_with fail
        go_ret
        exact ⟨by rw [HX.out]; rfl, HGB⟩
      have HS : Hid (stageB x = true) := by unfold Hid; rw [HSB.out, decide_eq_true (by omega), decide_eq_true (by omega)]; rfl
      clear HX3 HSB
      go_wp2_with fail
      go_round
      case rel =>
        refine ⟨k + 1, by omega, by go_num, ?_⟩
        intro i y hi hy
        by_cases hik : i < k
        · exact HK.out i y hik hy
        · obtain rfl : i = k := by omega
          rw [HXK.out] at hy
          obtain rfl := Option.some.inj hy
          exact HS.out
      case measure => simp [intOf]; omega
    · obtain rfl : k = 3 := by omega
      have s0 := HK.out 0 att (by omega) rfl
      have s1 := HK.out 1 dec (by omega) rfl
      have s2 := HK.out 2 rel (by omega) rfl
      have HR4 : Hid (r = if sus < 0 ∨ 1048576 < sus then 3 else 0) := by
        unfold Hid
        rw [HR3.out, s0, s1, s2]
        simp
      clear s0 s1 s2 HR3 HK HEL
      by_cases p1 : sus < 0
      · have HX : Hid (r = 3) := by unfold Hid; rw [HR4.out, if_pos (.inl p1)]
        clear HR4
        go_wp2_with fail
        go_ret
        exact ⟨by rw [HX.out]; rfl, HGB⟩
      by_cases p2 : 1048576 < sus
      · have HX : Hid (r = 3) := by unfold Hid; rw [HR4.out, if_pos (.inr p2)]
        clear HR4
        go_wp2_with fail
        go_ret
        exact ⟨by rw [HX.out]; rfl, HGB⟩
      have HX : Hid (r = 0) := by unfold Hid; rw [HR4.out, if_neg (by omega)]
      clear HR4
      go_wp2_with fail
      go_ret
      exact ⟨by rw [HX.out]; rfl, HGB⟩

end Go.Proofs.Ytdliilmnfbgplaa.GVRefW
