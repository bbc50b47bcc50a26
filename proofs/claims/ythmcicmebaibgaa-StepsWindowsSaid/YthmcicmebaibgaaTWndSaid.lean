/- Proved: 'StepsWindows' returns true, whatever it is given, and changes nothing. Conditions: none but the form's own reach. -/
import Derived.Test.YthmcicmebaibgaaTWndL
import Derived.Test.YthmcicmebaibgaaTOpn
import Derived.Test.YthmcicmebaibgaaRows
import Derived.Test.YthmcicmebaibgaaChecked
import Derived.OpenShut
namespace Go.Proofs.Ythmcicmebaibgaa.TWndSaid
open Go.ChangeShapes Go.WideShapes Go.ChangeAt Go.RowKit Go.Proofs.Ythmcicmebaibgaa.Hp Go.Proofs.Ythmcicmebaibgaa.Opn Go.Proofs.Ythmcicmebaibgaa.TOpen0 Go.Proofs.Ythmcicmebaibgaa.TOpn
set_option linter.unusedVariables false

set_option maxRecDepth 100000 in
theorem lifted (os : Os) (started : os.Started) (H : Type) (enc : TypeId × Value → H) :
    ReturnsInHanded {} Try.checked os 4 .any (Rows.stepsWindowsSpec.pre6 enc Try.prog Try.f4 Rows.stepsWindowsRow.domain false) (Rows.stepsWindowsSpec.post enc Try.prog Try.f4 false true false false) := by
  refine returnsInHanded_of_change_sized (C := Try.checked) own started (by kernel_rfl) Try.func4
    (ChangeSpec.witness6 (enc := enc) (C := Try.checked) false ⟨#[], #[.slice none 0 0, .slice none 0 0], []⟩ 8 (by kernel_rfl) (by kernel_rfl) (by kernel_rfl) (by kernel_rfl)) ?_
  intro W base args ds gs before hval0 hW hcnd hsz _
  have hval : ∀ (j : Nat) t v, Try.f4.params[j]? = some t → args[j]? = some v → Value.okWide Try.prog W .any base t v := hval0
  have hW' := hW
  obtain ⟨p, q, hA0, hV, rfl, hfz, hnd⟩ := hW
  have hA : DataW.TrodAll enc Try.prog W 0 (fun _ => true) true Try.f4.params.toList args.toList ds p := hA0
  rw [Try.params4] at hA hval hsz
  obtain ⟨v0, vs0, d0, ds0, p0, q0, hargs, rfl, rfl, h0, r0⟩ := trodAll_cons hA
  obtain ⟨v1, vs1, d1, ds1, p1, q1, rfl, rfl, rfl, h1, r1⟩ := trodAll_cons r0
  obtain ⟨rfl, rfl, rfl⟩ := trodAll_nil r1
  obtain rfl : args = #[v0, v1] := by cases args; simp_all
  obtain ⟨rfl, rfl⟩ := trodVars_none hV
  have lt0 : ∀ x ∈ p0, x.block < W.heap.size := by obtain ⟨m, hm⟩ := h0; exact DataW.trod_lt m _ _ _ hm
  have lt1 : ∀ x ∈ p1, x.block < W.heap.size := by obtain ⟨m, hm⟩ := h1; exact DataW.trod_lt m _ _ _ hm
  obtain ⟨f, _, hsec⟩ := secs_of_trod (okWide_slice Try.underlying22 (hval 0 22 v0 rfl rfl)) h0
  have hil := ils_of_trod Try.underlying39 cells3 Try.underlying3 (okWide_slice Try.underlying39 (hval 1 39 v1 rfl rfl)) h1
  obtain ⟨ao1, c1, rfl, _⟩ := Rd.sl_open hil
  have hb : ((els d1).map int).length < 9223372036854775807 := by
    cases d1 with
    | slice e s =>
      have := sized_slice hsz (j := 1) (t := 39) rfl rfl Try.underlying39
      rw [show Try.checked.prog.bytesOf 3 = 8 from by kernel_rfl] at this
      have hr : reachBytes = 140737488351232 := by decide
      rw [hr] at this
      simp only [els, List.length_map]
      omega
    | _ => simp [els]
  clear hA0 hval0
  refine ((TWndL.law f v0 ao1 c1 ((els d1).map int) W hsec hil hb).mono fun e W' h => (⟨h.1, h.2.out⟩ : e = .returned (.bool true) ∧ W.grownBy W' none)).mono fun e W' ⟨he, hg⟩ => ?_
  subst he
  have bel := Hp.grown_below hg
  exact ⟨_, rfl, _, _, _, [], _, [], hW', trodAll_mk1 (shut_bool Try.underlying4 _), (trodAll_cons_mk (Below.trod laidOut (by kernel_rfl) (of_decide_eq_true (by kernel_rfl)) h0 bel lt0) (trodAll_cons_mk (Below.trod laidOut (by kernel_rfl) (of_decide_eq_true (by kernel_rfl)) h1 bel lt1) trodAll_mk0)), rfl, bel.frame _, fun h => by cases h⟩

theorem over : Rows.stepsWindowsRow.holds Try.pinned (OpenSpec.ofChange Rows.stepsWindowsSpec) :=
  OpenClaim.holds_of_wide 4 Try.f4 rfl rfl rfl rfl rfl rfl rfl ⟨rfl, rfl, rfl, rfl, rfl⟩ rfl rfl rfl rfl rfl (by kernel_rfl) Try.func4 (by kernel_rfl)
    (of_decide_eq_true (by kernel_rfl)) (by unfold Func.isWrapper; first | (rw [if_pos (by decide +kernel)]; kernel_rfl) | (rw [if_neg (by decide +kernel)]; exact ⟨rfl, rfl⟩))
    (fun os started H enc _ => lifted os started H enc)

theorem proved : Rows.StepsWindowsSaid := over
end Go.Proofs.Ythmcicmebaibgaa.TWndSaid
