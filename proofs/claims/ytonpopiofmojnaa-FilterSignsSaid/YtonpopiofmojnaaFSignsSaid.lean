/- Proved: 'FilterSigns' returns true, whatever coefficients and samples it is given, and changes nothing. Conditions: none but the form's own reach. -/
import Derived.Test.YtonpopiofmojnaaFSigns
import Derived.Test.YtonpopiofmojnaaOpn
import Derived.OpenShut
namespace Go.Proofs.Ytonpopiofmojnaa.FSignsSaid
open Go.ChangeShapes Go.WideShapes Go.ChangeAt Go.RowKit Go.Proofs.Ytonpopiofmojnaa.Rd Go.Proofs.Ytonpopiofmojnaa.Hp Go.Proofs.Ytonpopiofmojnaa.Opn Go.Proofs.Ytonpopiofmojnaa.FRun
set_option linter.unusedVariables false

theorem own : ownKnob Try.prog.godebug = none := by kernel_rfl
theorem laidOut : laidOutB Try.prog = true := by kernel_rfl
theorem cells24 : Try.prog.cellsOf 24 = 5 := by kernel_rfl
theorem cells22 : Try.prog.cellsOf 22 = 1 := by kernel_rfl
theorem within24 : within Try.prog 2 24 = true := by kernel_rfl
theorem leaves24 : leaves Try.prog 2 24 0 = [(0, 22), (1, 22), (2, 22), (3, 22), (4, 22)] := by kernel_rfl

section
variable {H : Type} {enc : TypeId × Value → H} {w : World} {base b0 : Nat} {spare : Nat → Bool} {held : Bool} {r : Reach}

theorem leaf_float {cs : List Value} {o n : Nat} {y : DataW H × List MemPlace} (h : DataW.trod enc Try.prog w base spare held n 22 ((cs.drop o).take 1) = some y) : ∃ b, cs[o]? = some (.float .f64 b) := by
  obtain ⟨b, hb, _⟩ := trod_float Try.underlying22 h
  refine ⟨b, ?_⟩
  have := congrArg (·[0]?) hb
  simpa [List.getElem?_take, List.getElem?_drop] using this

theorem open_coefs {v : Value} {d : DataW H} {p : List MemPlace} (hv : Value.okWide Try.prog w r b0 24 v) (h : DataW.Trod enc Try.prog w base spare held 24 v d p) :
    ∃ c : Co, v = .agg #[.float .f64 c.b0, .float .f64 c.b1, .float .f64 c.b2, .float .f64 c.a1, .float .f64 c.a2] := by
  obtain ⟨cs, rfl, hsz⟩ := okWide_struct Try.underlying24 hv
  rw [cells24] at hsz
  obtain ⟨fuel, hf⟩ := h
  obtain ⟨l⟩ := cs
  have hl : l.length = 5 := by simpa using hsz
  have hbig : (l.drop 0).take (Try.prog.cellsOf 24) = l := by rw [cells24, List.drop_zero, List.take_of_length_le (by omega)]
  have hq := leaves_of_trod (enc := enc) (P := Try.prog) (w := w) (base := base) (spare := spare) (held := held) l 2 24 0 fuel (d, p) within24 (by rw [hbig]; exact hf)
  rw [leaves24] at hq
  have g : ∀ o, (o, 22) ∈ [(0, 22), (1, 22), (2, 22), (3, 22), (4, 22)] → ∃ b, l[o]? = some (.float .f64 b) := fun o ho => by
    obtain ⟨n, y, h⟩ := hq (o, 22) ho
    rw [cells22] at h
    exact leaf_float h
  obtain ⟨c0, h0⟩ := g 0 (by simp)
  obtain ⟨c1, h1⟩ := g 1 (by simp)
  obtain ⟨c2, h2⟩ := g 2 (by simp)
  obtain ⟨c3, h3⟩ := g 3 (by simp)
  obtain ⟨c4, h4⟩ := g 4 (by simp)
  refine ⟨⟨c0, c1, c2, c3, c4⟩, ?_⟩
  match l, hl, h0, h1, h2, h3, h4 with
  | [u0, u1, u2, u3, u4], _, h0, h1, h2, h3, h4 => simp at h0 h1 h2 h3 h4; subst h0 h1 h2 h3 h4; rfl
end

set_option maxRecDepth 100000 in
theorem lifted (os : Os) (started : os.Started) (H : Type) (enc : TypeId × Value → H) :
    ReturnsInHanded {} Try.checked os 6 .any (Rows.filterSignsSpec.pre6 enc Try.prog Try.f6 Rows.filterSignsRow.domain false) (Rows.filterSignsSpec.post enc Try.prog Try.f6 false true false false) := by
  refine returnsInHanded_of_change_sized (C := Try.checked) own started (by kernel_rfl) Try.func6
    (ChangeSpec.witness6 (enc := enc) (C := Try.checked) false ⟨#[], #[.agg #[.float .f64 0, .float .f64 0, .float .f64 0, .float .f64 0, .float .f64 0], .slice none 0 0], []⟩ 8 (by kernel_rfl) (by kernel_rfl) (by kernel_rfl) (by kernel_rfl)) ?_
  intro W base args ds gs before hval0 hW hcnd hsz _
  have hval : ∀ (j : Nat) t v, Try.f6.params[j]? = some t → args[j]? = some v → Value.okWide Try.prog W .any base t v := hval0
  have hW' := hW
  obtain ⟨p, q, hA0, hV, rfl, hfz, hnd⟩ := hW
  have hA : DataW.TrodAll enc Try.prog W 0 (fun _ => true) true Try.f6.params.toList args.toList ds p := hA0
  rw [Try.params6] at hA hval hsz
  obtain ⟨v0, vs0, d0, ds0, p0, q0, hargs, rfl, rfl, h0, r0⟩ := trodAll_cons hA
  obtain ⟨v1, vs1, d1, ds1, p1, q1, rfl, rfl, rfl, h1, r1⟩ := trodAll_cons r0
  obtain ⟨rfl, rfl, rfl⟩ := trodAll_nil r1
  obtain rfl : args = #[v0, v1] := by cases args; simp_all
  obtain ⟨rfl, rfl⟩ := trodVars_none hV
  have lt0 : ∀ x ∈ p0, x.block < W.heap.size := by obtain ⟨m, hm⟩ := h0; exact DataW.trod_lt m _ _ _ hm
  have lt1 : ∀ x ∈ p1, x.block < W.heap.size := by obtain ⟨m, hm⟩ := h1; exact DataW.trod_lt m _ _ _ hm
  obtain ⟨c, rfl⟩ := open_coefs (hval 0 24 v0 rfl rfl) h0
  have hs1 := okWide_slice Try.underlying30 (hval 1 30 v1 rfl rfl)
  have hf := fls_of_trod Try.underlying30 cells22 Try.underlying22 hs1 h1
  have hb : ((els d1).map flt).length * 8 ≤ 140737488351232 := by
    cases d1 with
    | slice e s =>
      have := sized_slice hsz (j := 1) (t := 30) rfl rfl Try.underlying30
      rw [show Try.checked.prog.bytesOf 22 = 8 from by kernel_rfl] at this
      have hr : reachBytes = 140737488351232 := by decide
      rw [hr] at this
      simp only [els, List.length_map]
      omega
    | _ => simp [els]
  clear hA0 hval0
  refine (FSigns.signs_walk c v1 _ W hb hf).mono fun e W' ⟨he, hg⟩ => ?_
  subst he
  have bel := grown_below hg
  exact ⟨_, rfl, _, _, _, [], _, [], hW', trodAll_mk1 (shut_bool Try.underlying4 _), (trodAll_cons_mk (Below.trod laidOut (by kernel_rfl) (of_decide_eq_true (by kernel_rfl)) h0 bel lt0) (trodAll_cons_mk (Below.trod laidOut (by kernel_rfl) (of_decide_eq_true (by kernel_rfl)) h1 bel lt1) trodAll_mk0)), rfl, bel.frame _, fun h => by cases h⟩

theorem over : Rows.filterSignsRow.holds Try.pinned (OpenSpec.ofChange Rows.filterSignsSpec) :=
  OpenClaim.holds_of_wide 6 Try.f6 rfl rfl rfl rfl rfl rfl rfl ⟨rfl, rfl, rfl, rfl, rfl⟩ rfl rfl rfl rfl rfl (by kernel_rfl) Try.func6 (by kernel_rfl)
    (of_decide_eq_true (by kernel_rfl)) (by unfold Func.isWrapper; first | (rw [if_pos (by decide +kernel)]; kernel_rfl) | (rw [if_neg (by decide +kernel)]; exact ⟨rfl, rfl⟩))
    (fun os started H enc _ => lifted os started H enc)

theorem proved : Rows.FilterSignsSaid := over
end Go.Proofs.Ytonpopiofmojnaa.FSignsSaid
