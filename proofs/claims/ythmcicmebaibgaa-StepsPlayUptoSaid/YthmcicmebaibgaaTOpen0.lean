/- A slice of events, opened. -/
import Derived.Test.YthmcicmebaibgaaRows
import Derived.Test.YthmcicmebaibgaaTWWrong
namespace Go.Proofs.Ythmcicmebaibgaa.TOpen0
open Go Go.RowKit Go.ChangeShapes Go.WideShapes Go.Deep Go.Proofs.Ythmcicmebaibgaa.WMod Go.Proofs.Ythmcicmebaibgaa.Opn Go.Proofs.Ythmcicmebaibgaa.Hp Go.Proofs.Ythmcicmebaibgaa.Rd Go.Proofs.Ythmcicmebaibgaa.TWWrong
set_option linter.unusedVariables false

theorem own : ownKnob Try.prog.godebug = none := by kernel_rfl
theorem laidOut : laidOutB Try.prog = true := by kernel_rfl
theorem cells60 : Try.prog.cellsOf 60 = 5 := by kernel_rfl
theorem cells3 : Try.prog.cellsOf 3 = 1 := by kernel_rfl
theorem within60 : within Try.prog 2 60 = true := by kernel_rfl
theorem leaves60 : leaves Try.prog 2 60 0 = [(0, 3), (1, 3), (2, 3), (3, 3), (4, 3)] := by kernel_rfl

/-- What each element is, chosen. -/
theorem slc_choose {α β : Type} {s : Nat} {R : World → List Value → α → Prop} {R' : World → List Value → β → Prop} {w : World} {v : Value} {xs : List α} (h : Slc s R w v xs) (hc : ∀ cs x, cs.length = s → R w cs x → ∃ y, R' w cs y) :
    ∃ ys : List β, ys.length = xs.length ∧ Slc s R' w v ys := by
  rcases h with ⟨b, off, cap, rfl, h⟩ | ⟨ao, cap, rfl, rfl⟩
  · have key : ∀ i : Fin xs.length, ∃ y, ∃ cs : List Value, cs.length = s ∧ (∀ j u, cs[j]? = some u → w.cell? ⟨b, off + (i.val * s + j), none⟩ = some u) ∧ R' w cs y := by
      intro i
      obtain ⟨cs, h1, h2, h3⟩ := h i.val xs[i] (List.getElem?_eq_getElem i.isLt)
      obtain ⟨y, hy⟩ := hc cs _ h1 h3
      exact ⟨y, cs, h1, h2, hy⟩
    have key2 : ∀ i : Fin xs.length, ∃ cs : List Value, cs.length = s ∧ (∀ j u, cs[j]? = some u → w.cell? ⟨b, off + (i.val * s + j), none⟩ = some u) ∧ R' w cs (Classical.choose (key i)) := fun i => Classical.choose_spec (key i)
    refine ⟨List.ofFn fun i => Classical.choose (key i), by simp, .inl ⟨b, off, cap, by simp, fun i y hy => ?_⟩⟩
    rw [List.getElem?_ofFn] at hy
    split at hy
    · rename_i hi
      simp only [Option.some.injEq] at hy
      subst hy
      exact key2 ⟨i, hi⟩
    · cases hy
  · exact ⟨[], rfl, .inr ⟨ao, cap, rfl, rfl⟩⟩

section
variable {H : Type} {enc : TypeId × Value → H} {w : World} {base : Nat} {spare : Nat → Bool} {held : Bool}

theorem leaf_int {cs : List Value} {o n : Nat} {y : DataW H × List MemPlace} (h : DataW.trod enc Try.prog w base spare held n 3 ((cs.drop o).take 1) = some y) : ∃ x : Int, cs[o]? = some (.int .i64 x) ∧ x ≤ 9223372036854775807 := by
  obtain ⟨x, hb, _, hw⟩ := DataW.trod_int Try.underlying3 h
  refine ⟨x, ?_, ?_⟩
  · have := congrArg (·[0]?) hb
    simpa [List.getElem?_take, List.getElem?_drop] using this
  · simp only [Lit.wf, show IntKind.i64.max = 9223372036854775807 from rfl, Bool.and_eq_true, decide_eq_true_eq] at hw
    exact hw.2

theorem open_event {n : Nat} {cs : List Value} {d : DataW H} {p : List MemPlace} (h : DataW.trod enc Try.prog w base spare held n 60 cs = some (d, p)) (hl : cs.length = 5) : ∃ e : Ev, EvR w cs e := by
  have hbig : (cs.drop 0).take (Try.prog.cellsOf 60) = cs := by rw [cells60, List.drop_zero, List.take_of_length_le (by omega)]
  have hq := leaves_of_trod (enc := enc) (P := Try.prog) (w := w) (base := base) (spare := spare) (held := held) cs 2 60 0 n (d, p) within60 (by rw [hbig]; exact h)
  rw [leaves60] at hq
  have g : ∀ o, (o, 3) ∈ [(0, 3), (1, 3), (2, 3), (3, 3), (4, 3)] → ∃ x : Int, cs[o]? = some (.int .i64 x) ∧ x ≤ 9223372036854775807 := fun o ho => by
    obtain ⟨n, y, h⟩ := hq (o, 3) ho
    rw [cells3] at h
    exact leaf_int h
  obtain ⟨x0, h0, m0⟩ := g 0 (by simp)
  obtain ⟨x1, h1, _⟩ := g 1 (by simp)
  obtain ⟨x2, h2, _⟩ := g 2 (by simp)
  obtain ⟨x3, h3, _⟩ := g 3 (by simp)
  obtain ⟨x4, h4, _⟩ := g 4 (by simp)
  refine ⟨⟨x0, x1, x2, x3, x4⟩, ?_, m0⟩
  match cs, hl, h0, h1, h2, h3, h4 with
  | [u0, u1, u2, u3, u4], _, h0, h1, h2, h3, h4 => simp at h0 h1 h2 h3 h4; subst h0 h1 h2 h3 h4; rfl

theorem evs_of_trod {v : Value} {d : DataW H} {p : List MemPlace} (hv : ∃ a len cap, v = .slice a len cap) (h : DataW.Trod enc Try.prog w base spare held 32 v d p) :
    ∃ (ao : Option Addr) (cap : Nat) (es : List Ev), v = .slice ao es.length cap ∧ es.length ≤ cap ∧ Evs w (.slice ao es.length cap) es := by
  obtain ⟨h1, a, len, cap, rfl, h2, h3, _⟩ := slc_of_trod (R := fun w cs (x : DataW H) => ∃ e : Ev, EvR w cs e) id (by omega) Try.underlying32 cells60 hv h (fun n cs d p h hl => open_event h hl)
  obtain ⟨ys, hy, hs⟩ := slc_choose h1 (fun cs x _ h => h)
  rw [List.map_id] at hy
  exact ⟨a, cap, ys, by rw [hy, h2], by omega, by rw [hy, ← h2]; exact hs⟩
end

end Go.Proofs.Ythmcicmebaibgaa.TOpen0
