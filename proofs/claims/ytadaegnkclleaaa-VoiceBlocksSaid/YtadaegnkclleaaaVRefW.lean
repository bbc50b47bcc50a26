/- The reference's voice: Sample, Wrong. -/
import Derived.Test.YtadaegnkclleaaaVRefS
namespace Go.Proofs.Ytadaegnkclleaaa.VRefW
open Go Ieee Go.RowKit Go.Proofs.Ytadaegnkclleaaa.Rnd Go.Proofs.Ytadaegnkclleaaa.Flo Go.Proofs.Ytadaegnkclleaaa.VSin Go.Proofs.Ytadaegnkclleaaa.VShape Go.Proofs.Ytadaegnkclleaaa.VStepF Go.Proofs.Ytadaegnkclleaaa.VMod Go.Proofs.Ytadaegnkclleaaa.VWalk Go.Proofs.Ytadaegnkclleaaa.VLevel Go.Proofs.Ytadaegnkclleaaa.VRender Go.Proofs.Ytadaegnkclleaaa.VSing Go.Proofs.Ytadaegnkclleaaa.VHeld Go.Proofs.Ytadaegnkclleaaa.VRefS Go.Proofs.Ytadaegnkclleaaa.Hp Go.Proofs.Ytadaegnkclleaaa.Rd
set_option linter.unusedVariables false

theorem at_ho {p : Pt} {s : St} {t : Nat} {off : Int} (h : At p s t off) : off = -1 ∨ 0 ≤ off ∧ off ≤ t := by
  rcases h.off with ⟨h, _⟩ | ⟨o, h, h2, _⟩ <;> omega

theorem phase_mul (t step : Nat) : IntKind.u32.wrap (((t % 4294967296 : Nat) : Int) * (step : Int)) = ((t * step % 4294967296 : Nat) : Int) := by
  rw [← Int.natCast_mul, wrap_u32, Nat.mod_mul_mod]

set_option maxHeartbeats 2000000 in
set_option maxRecDepth 100000 in
theorem sample_calls (p : Pt) (s : St) (t : Nat) (off : Int) (w : World) (hp : OkP p) (hs : OkS s) (h : At p s t off) (h1 : t ≤ 4611686018427387904) :
    Calls Try.prog 26 #[.agg #[.int .i64 p.shape, .int .u32 p.step, .float .f64 p.gain, .int .i64 p.att, .int .i64 p.dec, .int .i64 p.rel, .int .i64 p.sus], .int .i64 t, .int .i64 off] w fun e w' => e = .returned (.float .f64 (smp p s)) ∧ Hid (w.grownBy w' none) := by
  obtain ⟨y, q, z, m1, m2, m3, m4, _⟩ := smp_some hp hs
  rw [m4]
  have hphase := hs.phase
  have hsc := Lib.hid (fun w => ref_shape p.shape s.phase w hphase)
  obtain ⟨xw, hxw⟩ : ∃ x, shapeW p.shape s.phase = x := ⟨_, rfl⟩
  obtain ⟨xe, hxe⟩ : ∃ x, shapeE p.shape = x := ⟨_, rfl⟩
  rw [hxw] at m1
  simp only [hxw, hxe] at hsc
  have hl := at_level hp h
  obtain ⟨L, hL⟩ : ∃ L, levelZ p s = L := ⟨_, rfl⟩
  rw [hL] at hl m2
  have hlv := fun w => rlevel_calls p t off w hp (by omega) (by omega) (at_ho h)
  rw [← hl] at hlv
  have HLV := Lib.hid hlv
  obtain ⟨nm, hnm⟩ : ∃ nm, floatOfInt FloatKind.f64 L = nm := ⟨_, rfl⟩
  have m2' : D.div nm c20 = some q := by rw [← hnm]; exact m2
  have a1 : FloatKind.f64.format.mul p.gain xw = some y := m1
  have a2 : FloatKind.f64.format.div nm 4697254411347427328 = some q := m2'
  have a3 : FloatKind.f64.format.mul y q = some z := m3
  have b1 := wrap_u32 t
  have b2 := phase_mul t p.step
  rw [← h.phase] at b2
  obtain ⟨u, hu⟩ : ∃ u, t % 4294967296 = u := ⟨_, rfl⟩
  obtain ⟨ph, hph⟩ : ∃ u, s.phase = u := ⟨_, rfl⟩
  rw [hu] at b1 b2
  rw [hph] at b2
  simp only [hph] at hsc
  obtain ⟨shape, step, gain, att, dec, rel, sus⟩ := p
  simp only at a1 b2 hsc
  have HGA : Hid (w.grownBy (w.alloc (.cells #[.int .i64 shape, .int .u32 step, .float .f64 gain, .int .i64 att, .int .i64 dec, .int .i64 rel, .int .i64 sus] 33)) none) := grown_alloc (grown_refl _ _) _
  clear m1 m2 m3 m4 m2' hL hl hlv hxw hxe hu hph hphase hp hs h
  go_enter Try.func26, Try.ntmps26
  go_wp2_with (go_at_call 12; refine (hsc.out _).mono ?_; rintro e w1 ⟨rfl, rfl⟩)
  refine (HLV.out _).mono ?_
  rintro e w1 ⟨rfl, hg⟩
  have HG := Lib.hid (grown_trans HGA.out hg.out)
  clear hg HGA
  go_wp2_with fail
  go_ret
  exact ⟨rfl, HG.out⟩

set_option maxHeartbeats 2000000 in
set_option maxRecDepth 100000 in
theorem wrong_calls (p : Pt) (w : World) :
    Calls Try.prog 25 #[.agg #[.int .i64 p.shape, .int .u32 p.step, .float .f64 p.gain, .int .i64 p.att, .int .i64 p.dec, .int .i64 p.rel, .int .i64 p.sus]] w fun e w' => e = .returned (.int .i64 (wrongP p)) ∧ Hid (w.grownBy w' none) := by
  obtain ⟨shape, step, gain, att, dec, rel, sus⟩ := p
  have HGA : Hid (w.grownBy (w.alloc (.cells #[.int .i64 shape, .int .u32 step, .float .f64 gain, .int .i64 att, .int .i64 dec, .int .i64 rel, .int .i64 sus] 33)) none) := grown_alloc (grown_refl _ _) _
  have HGB : Hid (w.grownBy ((w.alloc (.cells #[.int .i64 shape, .int .u32 step, .float .f64 gain, .int .i64 att, .int .i64 dec, .int .i64 rel, .int .i64 sus] 33)).alloc (.cells #[.int .i64 att, .int .i64 dec, .int .i64 rel] 3)) none) := grown_alloc HGA.out _
  obtain ⟨r, hr⟩ : ∃ r, wrongP ⟨shape, step, gain, att, dec, rel, sus⟩ = r := ⟨_, rfl⟩
  have HR : Hid (r = if shape < 1 ∨ 4 < shape then 1
  else if gainB gain = false ∨ stageB att = false ∨ stageB dec = false ∨ stageB rel = false ∨ sus < 0 ∨ 1048576 < sus then 3 else 0) := by unfold Hid; rw [← hr]; rfl
  rw [hr]
  clear hr
  by_cases q1 : shape < 1
  · have HX : Hid (r = 1) := by unfold Hid; rw [HR.out, if_pos (.inl q1)]
    clear HR HGB
    go_enter Try.func25, Try.ntmps25
    go_wp2_with fail
    go_ret
    exact ⟨by rw [HX.out]; rfl, HGA⟩
  by_cases q2 : 4 < shape
  · have HX : Hid (r = 1) := by unfold Hid; rw [HR.out, if_pos (.inr q2)]
    clear HR HGB
    go_enter Try.func25, Try.ntmps25
    go_wp2_with fail
    go_ret
    exact ⟨by rw [HX.out]; rfl, HGA⟩
  have HR2 : Hid (r = if gainB gain = false ∨ stageB att = false ∨ stageB dec = false ∨ stageB rel = false ∨ sus < 0 ∨ 1048576 < sus then 3 else 0) := by unfold Hid; rw [HR.out, if_neg (by omega)]
  clear HR
  have hgb : gainB gain = ((FloatKind.f64.format.order gain 13920626448202203136 == some .gt || FloatKind.f64.format.order gain 13920626448202203136 == some .eq) && (FloatKind.f64.format.order gain 4697254411347427328 == some .lt || FloatKind.f64.format.order gain 4697254411347427328 == some .eq)) := rfl
  obtain ⟨b1, hb1⟩ : ∃ b, (FloatKind.f64.format.order gain 13920626448202203136 == some .gt || FloatKind.f64.format.order gain 13920626448202203136 == some .eq) = b := ⟨_, rfl⟩
  obtain ⟨b2, hb2⟩ : ∃ b, (FloatKind.f64.format.order gain 4697254411347427328 == some .lt || FloatKind.f64.format.order gain 4697254411347427328 == some .eq) = b := ⟨_, rfl⟩
  rw [hb1, hb2] at hgb
  have HGT := Lib.hid hgb
  clear hgb
  cases b1 with
  | false =>
    have HX : Hid (r = 3) := by unfold Hid; rw [HR2.out, if_pos (.inl (by rw [HGT.out]; rfl))]
    clear HR2 HGT HGB
    go_enter Try.func25, Try.ntmps25
    go_wp2_with fail
    go_ret
    exact ⟨by rw [HX.out]; rfl, HGA⟩
  | true =>
  cases b2 with
  | false =>
    have HX : Hid (r = 3) := by unfold Hid; rw [HR2.out, if_pos (.inl (by rw [HGT.out]; rfl))]
    clear HR2 HGT HGB
    go_enter Try.func25, Try.ntmps25
    go_wp2_with fail
    go_ret
    exact ⟨by rw [HX.out]; rfl, HGA⟩
  | true =>
  have HR3 : Hid (r = if stageB att = false ∨ stageB dec = false ∨ stageB rel = false ∨ sus < 0 ∨ 1048576 < sus then 3 else 0) := by
    unfold Hid
    rw [HR2.out]
    have : gainB gain = true := HGT.out
    simp [this]
  clear HR2 HGT HGA
  obtain ⟨w2, hw2⟩ : ∃ w2, (w.alloc (.cells #[.int .i64 shape, .int .u32 step, .float .f64 gain, .int .i64 att, .int .i64 dec, .int .i64 rel, .int .i64 sus] 33)).alloc (.cells #[.int .i64 att, .int .i64 dec, .int .i64 rel] 3) = w2 := ⟨_, rfl⟩
  have hsz : (w.alloc (.cells #[.int .i64 shape, .int .u32 step, .float .f64 gain, .int .i64 att, .int .i64 dec, .int .i64 rel, .int .i64 sus] 33)).heap.size = w.heap.size + 1 := by simp
  have hnew := heap_alloc_new (w.alloc (.cells #[.int .i64 shape, .int .u32 step, .float .f64 gain, .int .i64 att, .int .i64 dec, .int .i64 rel, .int .i64 sus] 33)) (.cells #[.int .i64 att, .int .i64 dec, .int .i64 rel] 3)
  rw [hsz, hw2] at hnew
  have HEL : Hid (∀ k x, [att, dec, rel][k]? = some x → w2.cell? ⟨w.heap.size + 1, k, none⟩ = some (.int .i64 x)) := by
    intro k x hx
    rw [cell_of hnew]
    match k, hx with
    | 0, hx => simp at hx; subst hx; rfl
    | 1, hx => simp at hx; subst hx; rfl
    | 2, hx => simp at hx; subst hx; rfl
    | k + 3, hx => simp at hx
  have c6 : w2.cell? ⟨w.heap.size, 6, none⟩ = some (.int .i64 sus) := by
    rw [← hw2]
    refine grown_cell (grown_alloc (grown_refl _ none) _) (p := ⟨w.heap.size, 6, none⟩) ?_ (by simp)
    rw [cell_of (heap_alloc_new _ _)]
    rfl
  rw [hw2] at HGB
  clear hnew hsz
  go_enter Try.func25, Try.ntmps25
  go_wp2_with fail
  clear hw2
  obtain ⟨g1, hg1⟩ : ∃ g, w.heap.size + 1 = g := ⟨_, rfl⟩
  rw [hg1] at HEL
  go_loop [29] (fun i => ∃ k : Nat, k ≤ 3 ∧ i = .int .i64 k ∧ Hid (∀ i x, i < k → [att, dec, rel][i]? = some x → stageB x = true)) (fun i => 3 - (intOf i).toNat)
  case atStart => exact ⟨0, Nat.zero_le _, rfl, fun i x hi => by omega⟩
  case round =>
    obtain ⟨k, hk, rfl, HK⟩ := hrel
    by_cases hlt : k < 3
    · obtain ⟨x, hx⟩ : ∃ x, [att, dec, rel][k]? = some x := ⟨[att, dec, rel][k]'(by simpa using hlt), List.getElem?_eq_getElem _⟩
      have e0 := HEL.out k x hx
      have HSB : Hid (stageB x = (decide (0 ≤ x) && decide (x ≤ 16777216))) := rfl
      have HX3 : Hid (stageB x = false → r = 3) := by
        intro hb
        rw [HR3.out, if_pos]
        match k, hx with
        | 0, hx => simp at hx; subst hx; exact .inl hb
        | 1, hx => simp at hx; subst hx; exact .inr (.inl hb)
        | 2, hx => simp at hx; subst hx; exact .inr (.inr (.inl hb))
        | k + 3, hx => simp at hx
      have HXK := Lib.hid hx
      clear hx HEL c6 HR3
      by_cases p1 : x < 0
      · have HX : Hid (r = 3) := HX3.out (by rw [HSB.out, decide_eq_false (by omega)]; rfl)
        clear HX3 HSB
        go_wp2_with fail
        go_ret
        exact ⟨by rw [HX.out]; rfl, HGB⟩
      by_cases p2 : 16777216 < x
      · have HX : Hid (r = 3) := HX3.out (by rw [HSB.out, decide_eq_false (p := x ≤ 16777216) (by omega), Bool.and_false])
        clear HX3 HSB
        go_wp2_with fail
        go_ret
        exact ⟨by rw [HX.out]; rfl, HGB⟩
      have HS : Hid (stageB x = true) := by unfold Hid; rw [HSB.out, decide_eq_true (by omega), decide_eq_true (by omega)]; rfl
      clear HX3 HSB
      go_wp2_with fail
      go_round
      case rel =>
        refine ⟨k + 1, by omega, by go_num, ?_⟩
        intro i y hi hy
        by_cases hik : i < k
        · exact HK.out i y hik hy
        · obtain rfl : i = k := by omega
          rw [HXK.out] at hy
          obtain rfl := Option.some.inj hy
          exact HS.out
      case measure => simp [intOf]; omega
    · obtain rfl : k = 3 := by omega
      have s0 := HK.out 0 att (by omega) rfl
      have s1 := HK.out 1 dec (by omega) rfl
      have s2 := HK.out 2 rel (by omega) rfl
      have HR4 : Hid (r = if sus < 0 ∨ 1048576 < sus then 3 else 0) := by
        unfold Hid
        rw [HR3.out, s0, s1, s2]
        simp
      clear s0 s1 s2 HR3 HK HEL
      by_cases p1 : sus < 0
      · have HX : Hid (r = 3) := by unfold Hid; rw [HR4.out, if_pos (.inl p1)]
        clear HR4
        go_wp2_with fail
        go_ret
        exact ⟨by rw [HX.out]; rfl, HGB⟩
      by_cases p2 : 1048576 < sus
      · have HX : Hid (r = 3) := by unfold Hid; rw [HR4.out, if_pos (.inr p2)]
        clear HR4
        go_wp2_with fail
        go_ret
        exact ⟨by rw [HX.out]; rfl, HGB⟩
      have HX : Hid (r = 0) := by unfold Hid; rw [HR4.out, if_neg (by omega)]
      clear HR4
      go_wp2_with fail
      go_ret
      exact ⟨by rw [HX.out]; rfl, HGB⟩

end Go.Proofs.Ytadaegnkclleaaa.VRefW
