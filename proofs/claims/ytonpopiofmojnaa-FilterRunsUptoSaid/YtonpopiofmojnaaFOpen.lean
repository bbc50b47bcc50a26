/- The arguments of the filter's laws, opened. -/
import Derived.Test.YtonpopiofmojnaaFAlive
import Derived.Test.YtonpopiofmojnaaOpn
import Derived.OpenShut
namespace Go.Proofs.Ytonpopiofmojnaa.FOpen
open Go.ChangeShapes Go.WideShapes Go.ChangeAt Go.RowKit Go.Proofs.Ytonpopiofmojnaa.Rd Go.Proofs.Ytonpopiofmojnaa.Hp Go.Proofs.Ytonpopiofmojnaa.Opn Go.Proofs.Ytonpopiofmojnaa.FRun
set_option linter.unusedVariables false

theorem own : ownKnob Try.prog.godebug = none := by kernel_rfl
theorem laidOut : laidOutB Try.prog = true := by kernel_rfl
theorem cells24 : Try.prog.cellsOf 24 = 5 := by kernel_rfl
theorem cells22 : Try.prog.cellsOf 22 = 1 := by kernel_rfl
theorem within24 : within Try.prog 2 24 = true := by kernel_rfl
theorem leaves24 : leaves Try.prog 2 24 0 = [(0, 22), (1, 22), (2, 22), (3, 22), (4, 22)] := by kernel_rfl

section
variable {H : Type} {enc : TypeId × Value → H} {w : World} {base b0 : Nat} {spare : Nat → Bool} {held : Bool} {r : Reach}

theorem leaf_float {cs : List Value} {o n : Nat} {y : DataW H × List MemPlace} (h : DataW.trod enc Try.prog w base spare held n 22 ((cs.drop o).take 1) = some y) : ∃ b, cs[o]? = some (.float .f64 b) := by
  obtain ⟨b, hb, _⟩ := trod_float Try.underlying22 h
  refine ⟨b, ?_⟩
  have := congrArg (·[0]?) hb
  simpa [List.getElem?_take, List.getElem?_drop] using this

theorem open_coefs {v : Value} {d : DataW H} {p : List MemPlace} (hv : Value.okWide Try.prog w r b0 24 v) (h : DataW.Trod enc Try.prog w base spare held 24 v d p) :
    ∃ c : Co, v = .agg #[.float .f64 c.b0, .float .f64 c.b1, .float .f64 c.b2, .float .f64 c.a1, .float .f64 c.a2] := by
  obtain ⟨cs, rfl, hsz⟩ := okWide_struct Try.underlying24 hv
  rw [cells24] at hsz
  obtain ⟨fuel, hf⟩ := h
  obtain ⟨l⟩ := cs
  have hl : l.length = 5 := by simpa using hsz
  have hbig : (l.drop 0).take (Try.prog.cellsOf 24) = l := by rw [cells24, List.drop_zero, List.take_of_length_le (by omega)]
  have hq := leaves_of_trod (enc := enc) (P := Try.prog) (w := w) (base := base) (spare := spare) (held := held) l 2 24 0 fuel (d, p) within24 (by rw [hbig]; exact hf)
  rw [leaves24] at hq
  have g : ∀ o, (o, 22) ∈ [(0, 22), (1, 22), (2, 22), (3, 22), (4, 22)] → ∃ b, l[o]? = some (.float .f64 b) := fun o ho => by
    obtain ⟨n, y, h⟩ := hq (o, 22) ho
    rw [cells22] at h
    exact leaf_float h
  obtain ⟨c0, h0⟩ := g 0 (by simp)
  obtain ⟨c1, h1⟩ := g 1 (by simp)
  obtain ⟨c2, h2⟩ := g 2 (by simp)
  obtain ⟨c3, h3⟩ := g 3 (by simp)
  obtain ⟨c4, h4⟩ := g 4 (by simp)
  refine ⟨⟨c0, c1, c2, c3, c4⟩, ?_⟩
  match l, hl, h0, h1, h2, h3, h4 with
  | [u0, u1, u2, u3, u4], _, h0, h1, h2, h3, h4 => simp at h0 h1 h2 h3 h4; subst h0 h1 h2 h3 h4; rfl
end

theorem bytes22 : Try.checked.prog.bytesOf 22 = 8 := by kernel_rfl
theorem reach_eq : reachBytes = 140737488351232 := by decide

theorem fls_bound {H : Type} {P : Program} {ts : List TypeId} {ds : List (DataW H)} (h : (DataW.weightsEach P ts ds).all (· ≤ reachBytes) = true) {j : Nat} {t e : TypeId} {d : DataW H} (ht : ts[j]? = some t) (hd : ds[j]? = some d) (hu : P.underlying t = some (.slice e)) (hb : P.bytesOf e = 8) :
    ((els d).map flt).length * 8 ≤ 140737488351232 := by
  cases d with
  | slice e s =>
    have := sized_slice h ht hd hu
    rw [hb, reach_eq] at this
    simp only [els, List.length_map]
    omega
  | _ => simp [els]

end Go.Proofs.Ytonpopiofmojnaa.FOpen
