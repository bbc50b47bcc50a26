/- Proved: 'TakePlays' returns true, whatever it is given, and changes nothing. Conditions: none but the form's own reach. -/
import Derived.Test.YtdnmimfichijgaaKPlL
import Derived.Test.YtdnmimfichijgaaKOpn
import Derived.Test.YtdnmimfichijgaaRows
import Derived.Test.YtdnmimfichijgaaChecked
import Derived.OpenShut
namespace Go.Proofs.Ytdnmimfichijgaa.KPlaySaid
open Go.ChangeShapes Go.WideShapes Go.ChangeAt Go.RowKit Go.Proofs.Ytdnmimfichijgaa.Hp Go.Proofs.Ytdnmimfichijgaa.Opn Go.Proofs.Ytdnmimfichijgaa.KOpn
set_option linter.unusedVariables false

set_option maxRecDepth 100000 in
theorem lifted (os : Os) (started : os.Started) (H : Type) (enc : TypeId × Value → H) :
    ReturnsInHanded {} Try.checked os 3 .any (Rows.takePlaysSpec.pre6 enc Try.prog Try.f3 Rows.takePlaysRow.domain false) (Rows.takePlaysSpec.post enc Try.prog Try.f3 false true false false) := by
  refine returnsInHanded_of_change_sized (C := Try.checked) own started (by kernel_rfl) Try.func3
    (ChangeSpec.witness6 (enc := enc) (C := Try.checked) false ⟨#[], #[.slice none 0 0, .slice none 0 0], []⟩ 8 (by kernel_rfl) (by kernel_rfl) (by kernel_rfl) (by kernel_rfl)) ?_
  intro W base args ds gs before hval0 hW hcnd hsz _
  have hval : ∀ (j : Nat) t v, Try.f3.params[j]? = some t → args[j]? = some v → Value.okWide Try.prog W .any base t v := hval0
  have hW' := hW
  obtain ⟨p, q, hA0, hV, rfl, hfz, hnd⟩ := hW
  have hA : DataW.TrodAll enc Try.prog W 0 (fun _ => true) true Try.f3.params.toList args.toList ds p := hA0
  rw [Try.params3] at hA hval hsz
  obtain ⟨v0, vs0, d0, ds0, p0, q0, hargs, rfl, rfl, h0, r0⟩ := trodAll_cons hA
  obtain ⟨v1, vs1, d1, ds1, p1, q1, rfl, rfl, rfl, h1, r1⟩ := trodAll_cons r0
  obtain ⟨rfl, rfl, rfl⟩ := trodAll_nil r1
  obtain rfl : args = #[v0, v1] := by cases args; simp_all
  obtain ⟨rfl, rfl⟩ := trodVars_none hV
  have lt0 : ∀ x ∈ p0, x.block < W.heap.size := by obtain ⟨m, hm⟩ := h0; exact DataW.trod_lt m _ _ _ hm
  have lt1 : ∀ x ∈ p1, x.block < W.heap.size := by obtain ⟨m, hm⟩ := h1; exact DataW.trod_lt m _ _ _ hm
  obtain ⟨wa, wc, ws, rfl, hlen0, hws⟩ := words_of_trod (okWide_slice Try.underlying22 (hval 0 22 v0 rfl rfl)) h0
  obtain ⟨sa, sc, ps, rfl, hlen1, hps⟩ := steps_of_trod (okWide_slice Try.underlying23 (hval 1 23 v1 rfl rfl)) h1
  have hw : ws.length * 8 ≤ 140737488355328 := by
    rw [hlen0]
    cases d0 with
    | slice e s =>
      have := sized_slice hsz (j := 0) (t := 22) rfl rfl Try.underlying22
      rw [show Try.checked.prog.bytesOf 2 = 8 from by kernel_rfl] at this
      have hr : reachBytes = 140737488351232 := by decide
      rw [hr] at this
      simp only [els]
      omega
    | _ => simp [els]
  have hb : ps.length * 88 ≤ 140737488355328 := by
    rw [hlen1]
    cases d1 with
    | slice e s =>
      have := sized_slice hsz (j := 1) (t := 23) rfl rfl Try.underlying23
      rw [show Try.checked.prog.bytesOf 44 = 88 from by kernel_rfl] at this
      have hr : reachBytes = 140737488351232 := by decide
      rw [hr] at this
      simp only [els]
      omega
    | _ => simp [els]
  clear hA0 hval0
  refine ((KPlL.law wa sa wc sc ws ps W hws hps (by omega) hb).mono fun e W' h => (⟨h.1, h.2.out⟩ : e = .returned (.bool true) ∧ W.grownBy W' none)).mono fun e W' ⟨he, hg⟩ => ?_
  subst he
  have bel := Hp.grown_below hg
  exact ⟨_, rfl, _, _, _, [], _, [], hW', trodAll_mk1 (shut_bool Try.underlying4 _), (trodAll_cons_mk (Below.trod laidOut (by kernel_rfl) (of_decide_eq_true (by kernel_rfl)) h0 bel lt0) (trodAll_cons_mk (Below.trod laidOut (by kernel_rfl) (of_decide_eq_true (by kernel_rfl)) h1 bel lt1) trodAll_mk0)), rfl, bel.frame _, fun h => by cases h⟩

theorem over : Rows.takePlaysRow.holds Try.pinned (OpenSpec.ofChange Rows.takePlaysSpec) :=
  OpenClaim.holds_of_wide 3 Try.f3 rfl rfl rfl rfl rfl rfl rfl ⟨rfl, rfl, rfl, rfl, rfl⟩ rfl rfl rfl rfl rfl (by kernel_rfl) Try.func3 (by kernel_rfl)
    (of_decide_eq_true (by kernel_rfl)) (by unfold Func.isWrapper; first | (rw [if_pos (by decide +kernel)]; kernel_rfl) | (rw [if_neg (by decide +kernel)]; exact ⟨rfl, rfl⟩))
    (fun os started H enc _ => lifted os started H enc)

theorem proved : Rows.TakePlaysSaid := over
end Go.Proofs.Ytdnmimfichijgaa.KPlaySaid
