/- Proved: 'GraphRuns' returns true where its arguments are of bulk at most 1048576, and changes nothing. Conditions: none but the bound of the second form. -/
import Derived.Test.YtdliilmnfbgplaaGRunsL
import Derived.Test.YtdliilmnfbgplaaGOpenP
import Derived.Test.YtdliilmnfbgplaaGM9
import Derived.Test.YtdliilmnfbgplaaRows
import Derived.Test.YtdliilmnfbgplaaChecked
import Derived.OpenShut
import Derived.JoinedCond
import Derived.Deep.CondSized
namespace Go.Proofs.Ytdliilmnfbgplaa.GRunsUpto
open Go.ChangeShapes Go.WideShapes Go.ChangeAt Go.RowKit Go.Proofs.Ytdliilmnfbgplaa.Hp Go.Proofs.Ytdliilmnfbgplaa.Opn Go.Proofs.Ytdliilmnfbgplaa.GMod Go.Proofs.Ytdliilmnfbgplaa.GOpen
set_option linter.unusedVariables false

set_option maxRecDepth 100000 in
theorem lifted (os : Os) (started : os.Started) (H : Type) (enc : TypeId × Value → H) (F : Stop.Interp) :
    ReturnsInHanded {} Try.checked os 3 .any ((Rows.OpenSpec.upto Rows.graphRunsSpec).pre6 enc Try.prog Try.f3 Rows.graphRunsUptoRow.domain false) (((Rows.OpenSpec.upto Rows.graphRunsSpec).at F).post enc Try.prog Try.f3 false true false false) := by
  refine returnsInHanded_of_cond_sized (C := Try.checked) (s := Rows.OpenSpec.upto Rows.graphRunsSpec) (k := Rows.uptoSmall) rfl own started (by kernel_rfl) Try.func3
    (OpenSpec.witness (enc := enc) (C := Try.checked) (s := Rows.OpenSpec.upto Rows.graphRunsSpec) (k := Rows.uptoSmall) rfl false ⟨#[], #[.agg #[.int .i64 0, .slice none 0 0, .slice none 0 0], .slice none 0 0], []⟩ 8 (by kernel_rfl) (by kernel_rfl) (by kernel_rfl)
      (x := ([.agg [.lit (.int .i64 0), .nil, .nil], .nil], [], [])) (by kernel_rfl) rfl (by kernel_rfl)) ?_
  intro W base args ds gs before hval0 hW hcnd hk hsz _
  have hval : ∀ (j : Nat) t v, Try.f3.params[j]? = some t → args[j]? = some v → Value.okWide Try.prog W .any base t v := hval0
  have hW' := hW
  obtain ⟨p, q, hA0, hV, rfl, hfz, hnd⟩ := hW
  have hA : DataW.TrodAll enc Try.prog W 0 (fun _ => true) true Try.f3.params.toList args.toList ds p := hA0
  rw [Try.params3] at hA hval hsz
  obtain ⟨v0, vs0, d0, ds0, p0, q0, hargs, rfl, rfl, h0, r0⟩ := trodAll_cons hA
  obtain ⟨v1, vs1, d1, ds1, p1, q1, rfl, rfl, rfl, h1, r1⟩ := trodAll_cons r0
  obtain ⟨rfl, rfl, rfl⟩ := trodAll_nil r1
  obtain rfl : args = #[v0, v1] := by cases args; simp_all
  obtain ⟨rfl, rfl⟩ := trodVars_none hV
  have lt0 : ∀ x ∈ p0, x.block < W.heap.size := by obtain ⟨m, hm⟩ := h0; exact DataW.trod_lt m _ _ _ hm
  have lt1 : ∀ x ∈ p1, x.block < W.heap.size := by obtain ⟨m, hm⟩ := h1; exact DataW.trod_lt m _ _ _ hm
  have hbulk : Rows.uptoBulkAll [d0, d1] ≤ 1048576 := by have := of_decide_eq_true hk; simpa using this
  obtain ⟨g, na, oa, nc, oc, rfl, hnd, hou, hfl, hnl, hol⟩ := graph_of_trod (hval 0 25 v0 rfl rfl) h0
  obtain ⟨pa, pc, ps, rfl, hll, hpc, hpl⟩ := GOpenP.pcs_of_trod (okWide_slice Try.underlying26 (hval 1 26 v1 rfl rfl)) h1
  have hb1 := Bulk.els_length d1
  simp only [Rows.uptoBulkAll] at hbulk
  have hfl2 : ∀ x ∈ g.nodes, x.from_.length ≤ 1048576 ∧ x.pt.step < 4294967296 := fun x hx => ⟨by have := (hfl x hx).1; omega, (hfl x hx).2⟩
  clear hA0 hval0
  refine ((GRunsL.law g na oa nc oc pa pc ps W hnd hou hfl2 hpc (fun p hp => by have := hpl p hp; omega) (by omega)).mono fun e W' h => (⟨h.1, h.2.out⟩ : e = .returned (.bool true) ∧ W.grownBy W' none)).mono fun e W' ⟨he, hg⟩ => ?_
  subst he
  have bel := Hp.grown_below hg
  exact ⟨_, rfl, _, _, _, [], _, [], hW', trodAll_mk1 (shut_bool Try.underlying4 _), (trodAll_cons_mk (Below.trod laidOut (by kernel_rfl) (of_decide_eq_true (by kernel_rfl)) h0 bel lt0) (trodAll_cons_mk (Below.trod laidOut (by kernel_rfl) (of_decide_eq_true (by kernel_rfl)) h1 bel lt1) trodAll_mk0)), rfl, bel.frame _, fun h => by cases h⟩

theorem over : Rows.graphRunsUptoRow.holds Try.pinned (Rows.OpenSpec.upto Rows.graphRunsSpec) :=
  OpenClaim.holds_of_cond 3 Try.f3 rfl rfl rfl rfl rfl rfl rfl ⟨rfl, rfl, rfl, rfl, rfl⟩ rfl rfl rfl rfl rfl (by kernel_rfl) Try.func3 (by kernel_rfl)
    (of_decide_eq_true (by kernel_rfl)) (by unfold Func.isWrapper; first | (rw [if_pos (by decide +kernel)]; kernel_rfl) | (rw [if_neg (by decide +kernel)]; exact ⟨rfl, rfl⟩))
    (fun os started H enc _ F => lifted os started H enc F)

theorem proved : Rows.GraphRunsUptoSaid := over
end Go.Proofs.Ytdliilmnfbgplaa.GRunsUpto
