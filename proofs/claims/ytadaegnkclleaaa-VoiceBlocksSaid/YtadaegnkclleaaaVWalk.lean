/- A voice: New, level, Off. -/
import Derived.Test.YtadaegnkclleaaaVMod
import Derived.Test.YtadaegnkclleaaaOpn
import Derived.Test.YtadaegnkclleaaaMixed
import Derived.Deep.MidRow
import Derived.Deep.Cut
import Derived.Deep.CutRange
import Derived.BigRegion
namespace Go.Proofs.Ytadaegnkclleaaa.VWalk
open Go Ieee Go.RowKit Go.Proofs.Ytadaegnkclleaaa.Rnd Go.Proofs.Ytadaegnkclleaaa.Flo Go.Proofs.Ytadaegnkclleaaa.Flc Go.Proofs.Ytadaegnkclleaaa.VTab Go.Proofs.Ytadaegnkclleaaa.VSine Go.Proofs.Ytadaegnkclleaaa.VSin Go.Proofs.Ytadaegnkclleaaa.VShape Go.Proofs.Ytadaegnkclleaaa.VStepF Go.Proofs.Ytadaegnkclleaaa.VMod Go.Proofs.Ytadaegnkclleaaa.Hp Go.Proofs.Ytadaegnkclleaaa.Rd
set_option linter.unusedVariables false

set_option maxHeartbeats 400000 in
theorem stage_calls (n : Int) (w : World) : Calls Try.prog 29 #[.int .i64 n] w fun e w' => e = .returned (.bool (stageB n)) ∧ w = w' := by
  unfold stageB
  by_cases h1 : 0 ≤ n <;> by_cases h2 : n ≤ 16777216 <;> simp only [h1, h2, decide_true, decide_false, Bool.and_true, Bool.and_false]
  all_goals go_enter Try.func29, Try.ntmps29; go_wp2_with fail; go_ret; exact ⟨rfl, rfl⟩

/-- A voice in memory: its patch, and where it stands. -/
def VAt (w : World) (g : Nat) (p : Pt) (s : St) : Prop :=
  w.heap[g]? = some (.cells #[.int .i64 p.shape, .int .u32 p.step, .float .f64 p.gain, .int .i64 p.att, .int .i64 p.dec, .int .i64 p.rel, .int .i64 p.sus, .int .u32 s.phase, .int .i64 s.time, .int .i64 s.off, .int .i64 s.from_] 60 (0, 0))

def st0 : St := ⟨0, 0, -1, 0⟩
theorem st0_ok : OkS st0 := ⟨by decide, by decide, by decide, by decide⟩

def NewPost (p : Pt) (w : World) (e : Ending) (w' : World) : Prop := Hid (w.grownBy w' none) ∧
  ((wrongP p ≠ 0 ∧ e = .returned (.tuple #[.pointer none, .int .i64 (wrongP p)])) ∨ (wrongP p = 0 ∧ ∃ g, w.heap.size ≤ g ∧ VAt w' g p st0 ∧ e = .returned (.tuple #[.pointer (some ⟨g, 0, none⟩), .int .i64 0])))

set_option maxHeartbeats 2000000 in
set_option maxRecDepth 100000 in
theorem new_calls (p : Pt) (w : World) : Calls Try.prog 22 #[.agg #[.int .i64 p.shape, .int .u32 p.step, .float .f64 p.gain, .int .i64 p.att, .int .i64 p.dec, .int .i64 p.rel, .int .i64 p.sus]] w fun e w' => NewPost p w e w' := by
  obtain ⟨shape, step, gain, att, dec, rel, sus⟩ := p
  have HGA : Hid (w.grownBy (w.alloc (.cells #[.int .i64 shape, .int .u32 step, .float .f64 gain, .int .i64 att, .int .i64 dec, .int .i64 rel, .int .i64 sus] 33)) none) := grown_alloc (grown_refl _ _) _
  obtain ⟨r, hr⟩ : ∃ r, wrongP ⟨shape, step, gain, att, dec, rel, sus⟩ = r := ⟨_, rfl⟩
  have HR : Hid (r = if shape < 1 ∨ 4 < shape then 1
  else if gainB gain = false ∨ stageB att = false ∨ stageB dec = false ∨ stageB rel = false ∨ sus < 0 ∨ 1048576 < sus then 3 else 0) := by unfold Hid; rw [← hr]; rfl
  unfold NewPost
  rw [hr]
  clear hr
  by_cases q1 : shape < 1
  · have HX : Hid (r = 1) := by unfold Hid; rw [HR.out, if_pos (.inl q1)]
    clear HR
    go_enter Try.func22, Try.ntmps22
    go_wp2_with fail
    go_ret2
    exact ⟨HGA, .inl ⟨by rw [HX.out]; decide, by rw [HX.out]; rfl⟩⟩
  by_cases q2 : 4 < shape
  · have HX : Hid (r = 1) := by unfold Hid; rw [HR.out, if_pos (.inr q2)]
    clear HR
    go_enter Try.func22, Try.ntmps22
    go_wp2_with fail
    go_ret2
    exact ⟨HGA, .inl ⟨by rw [HX.out]; decide, by rw [HX.out]; rfl⟩⟩
  have HR2 : Hid (r = if gainB gain = false ∨ stageB att = false ∨ stageB dec = false ∨ stageB rel = false ∨ sus < 0 ∨ 1048576 < sus then 3 else 0) := by unfold Hid; rw [HR.out, if_neg (by omega)]
  clear HR
  go_enter Try.func22, Try.ntmps22
  go_upto_region 3 with fail
  obtain ⟨g, hg⟩ : ∃ g, w.heap.size = g := ⟨_, rfl⟩
  obtain ⟨wn, hwn⟩ : ∃ wn, w.alloc (.cells #[.int .i64 shape, .int .u32 step, .float .f64 gain, .int .i64 att, .int .i64 dec, .int .i64 rel, .int .i64 sus] 33) = wn := ⟨_, rfl⟩
  have hrow : wn.heap[g]? = some (.cells #[.int .i64 shape, .int .u32 step, .float .f64 gain, .int .i64 att, .int .i64 dec, .int .i64 rel, .int .i64 sus] 33 (0, 0)) := by
    rw [← hwn, ← hg]; exact heap_alloc_new _ _
  rw [hwn] at HGA
  have HROW := Lib.hid hrow
  have hsz : w.heap.size ≤ wn.heap.size := HGA.out.size
  simp only [hg, hwn]
  clear hrow hwn hg
  go_cut [48] from 12 (fun c wx => c = .bool (decide (gainB gain = false ∨ stageB att = false ∨ stageB dec = false ∨ stageB rel = false ∨ sus < 0 ∨ 1048576 < sus)) ∧ wx = wn)
  case first =>
    clear HGA HR2 hsz
    have c2 : wn.cell? ⟨g, 2, none⟩ = some (.float .f64 gain) := cell_of HROW.out 2
    have c3 : wn.cell? ⟨g, 3, none⟩ = some (.int .i64 att) := cell_of HROW.out 3
    have c4 : wn.cell? ⟨g, 4, none⟩ = some (.int .i64 dec) := cell_of HROW.out 4
    have c5 : wn.cell? ⟨g, 5, none⟩ = some (.int .i64 rel) := cell_of HROW.out 5
    have c6 : wn.cell? ⟨g, 6, none⟩ = some (.int .i64 sus) := cell_of HROW.out 6
    clear HROW
    have hgb : gainB gain = ((FloatKind.f64.format.order gain 13920626448202203136 == some .gt || FloatKind.f64.format.order gain 13920626448202203136 == some .eq) && (FloatKind.f64.format.order gain 4697254411347427328 == some .lt || FloatKind.f64.format.order gain 4697254411347427328 == some .eq)) := rfl
    obtain ⟨b1, hb1⟩ : ∃ b, (FloatKind.f64.format.order gain 13920626448202203136 == some .gt || FloatKind.f64.format.order gain 13920626448202203136 == some .eq) = b := ⟨_, rfl⟩
    obtain ⟨b2, hb2⟩ : ∃ b, (FloatKind.f64.format.order gain 4697254411347427328 == some .lt || FloatKind.f64.format.order gain 4697254411347427328 == some .eq) = b := ⟨_, rfl⟩
    rw [hb1, hb2] at hgb
    have HGB := Lib.hid hgb
    clear hgb
    cases b1 with
    | false =>
      go_wp2_with (go_at_call 29; refine (stage_calls _ _).mono ?_; rintro e1 w1 ⟨rfl, rfl⟩)
      go_meet
      exact ⟨congrArg Value.bool (decide_eq_true (.inl (by rw [HGB.out]; rfl))).symm, rfl⟩
    | true =>
    cases b2 with
    | false =>
      go_wp2_with (go_at_call 29; refine (stage_calls _ _).mono ?_; rintro e1 w1 ⟨rfl, rfl⟩)
      go_meet
      exact ⟨congrArg Value.bool (decide_eq_true (.inl (by rw [HGB.out]; rfl))).symm, rfl⟩
    | true =>
    have HGT : Hid (gainB gain = true) := HGB.out
    clear HGB
    by_cases p1 : stageB att = false
    · go_wp2_with (go_at_call 29; refine (stage_calls _ _).mono ?_; rintro e1 w1 ⟨rfl, rfl⟩)
      go_meet
      exact ⟨congrArg Value.bool (decide_eq_true (.inr (.inl p1))).symm, rfl⟩
    have p1' : stageB att = true := by simpa using p1
    clear p1
    by_cases p2 : stageB dec = false
    · go_wp2_with (go_at_call 29; refine (stage_calls _ _).mono ?_; rintro e1 w1 ⟨rfl, rfl⟩)
      go_meet
      exact ⟨congrArg Value.bool (decide_eq_true (.inr (.inr (.inl p2)))).symm, rfl⟩
    have p2' : stageB dec = true := by simpa using p2
    clear p2
    by_cases p3 : stageB rel = false
    · go_wp2_with (go_at_call 29; refine (stage_calls _ _).mono ?_; rintro e1 w1 ⟨rfl, rfl⟩)
      go_meet
      exact ⟨congrArg Value.bool (decide_eq_true (.inr (.inr (.inr (.inl p3))))).symm, rfl⟩
    have p3' : stageB rel = true := by simpa using p3
    clear p3
    by_cases p4 : sus < 0
    · go_wp2_with (go_at_call 29; refine (stage_calls _ _).mono ?_; rintro e1 w1 ⟨rfl, rfl⟩)
      go_meet
      exact ⟨congrArg Value.bool (decide_eq_true (.inr (.inr (.inr (.inr (.inl p4)))))).symm, rfl⟩
    by_cases p5 : 1048576 < sus
    · go_wp2_with (go_at_call 29; refine (stage_calls _ _).mono ?_; rintro e1 w1 ⟨rfl, rfl⟩)
      go_meet
      exact ⟨congrArg Value.bool (decide_eq_true (.inr (.inr (.inr (.inr (.inr p5)))))).symm, rfl⟩
    · go_wp2_with (go_at_call 29; refine (stage_calls _ _).mono ?_; rintro e1 w1 ⟨rfl, rfl⟩)
      go_meet
      exact ⟨congrArg Value.bool (by simp [HGT.out, p1', p2', p3']), rfl⟩
  case rest =>
    obtain ⟨rfl, hwx⟩ := hcut
    rw [hwx]
    clear hwx
    by_cases hb : gainB gain = false ∨ stageB att = false ∨ stageB dec = false ∨ stageB rel = false ∨ sus < 0 ∨ 1048576 < sus
    · have HX : Hid (r = 3) := by unfold Hid; rw [HR2.out, if_pos hb]
      simp only [hb, decide_true]
      clear HR2 hb
      go_wp2_with fail
      go_ret2
      exact ⟨HGA, .inl ⟨by rw [HX.out]; decide, by rw [HX.out]; rfl⟩⟩
    · have HX : Hid (r = 0) := by unfold Hid; rw [HR2.out, if_neg hb]
      simp only [hb, decide_false]
      clear HR2 hb
      have c0 : wn.cell? ⟨g, 0, none⟩ = some (.int .i64 shape) := cell_of HROW.out 0
      have c1 : wn.cell? ⟨g, 1, none⟩ = some (.int .u32 step) := cell_of HROW.out 1
      have c2 : wn.cell? ⟨g, 2, none⟩ = some (.float .f64 gain) := cell_of HROW.out 2
      have c3 : wn.cell? ⟨g, 3, none⟩ = some (.int .i64 att) := cell_of HROW.out 3
      have c4 : wn.cell? ⟨g, 4, none⟩ = some (.int .i64 dec) := cell_of HROW.out 4
      have c5 : wn.cell? ⟨g, 5, none⟩ = some (.int .i64 rel) := cell_of HROW.out 5
      have c6 : wn.cell? ⟨g, 6, none⟩ = some (.int .i64 sus) := cell_of HROW.out 6
      go_wp2_with fail
      go_ret2
      exact ⟨grown_alloc HGA.out _, .inr ⟨HX.out, wn.heap.size, hsz, heap_alloc_new _ _, rfl⟩⟩

end Go.Proofs.Ytadaegnkclleaaa.VWalk
