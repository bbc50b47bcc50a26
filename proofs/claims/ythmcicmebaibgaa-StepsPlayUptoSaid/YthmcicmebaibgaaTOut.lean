/- What the reference's walk has put so far: at most 4097 events, in a row of the call's own. -/
import Derived.Test.YthmcicmebaibgaaTWin
import Derived.Test.YthmcicmebaibgaaTPl
namespace Go.Proofs.Ythmcicmebaibgaa.TOut
open Go Go.RowKit Go.Proofs.Ythmcicmebaibgaa.WMod Go.Proofs.Ythmcicmebaibgaa.TMod Go.Proofs.Ythmcicmebaibgaa.TRead Go.Proofs.Ythmcicmebaibgaa.TSz Go.Proofs.Ythmcicmebaibgaa.TEv Go.Proofs.Ythmcicmebaibgaa.TPl Go.Proofs.Ythmcicmebaibgaa.TWin Go.Proofs.Ythmcicmebaibgaa.Opn Go.Proofs.Ythmcicmebaibgaa.Hp Go.Proofs.Ythmcicmebaibgaa.Rd Go.Proofs.Ythmcicmebaibgaa.TWWrong
set_option linter.unusedVariables false

structure OutS (w0 w : World) (v : Value) (Z : List Ev) : Prop where
  gr : w0.grownBy w none
  ow : w.ownsRow w0.heap.size 60 5 v (Z.take 4097).length (evC (Z.take 4097))

theorem OutS.kept {w0 w w' : World} {v : Value} {Z : List Ev} (h : OutS w0 w v Z) (hg : w.grownBy w' none) : OutS w0 w' v Z := ⟨grown_trans h.gr hg, own_kept h.ow hg⟩

theorem OutS.full {w0 w : World} {v : Value} {Z : List Ev} (h : OutS w0 w v Z) (hf : 4096 < Z.length) (Y : List Ev) : OutS w0 w v (Z ++ Y) := by
  have e1 : (Z ++ Y).take 4097 = Z.take 4097 := List.take_append_of_le_length (by omega)
  exact ⟨h.gr, by rw [e1]; exact h.ow⟩

theorem OutS.open {w0 w : World} {v : Value} {Z : List Ev} (h : OutS w0 w v Z) : ∃ ao c, v = .slice ao (Z.take 4097).length c := own_slice h.ow

theorem OutS.new (w0 : World) : OutS w0 w0 (.slice none 0 0) [] := ⟨grown_refl _ _, World.ownsRow_nil _ _ _ _⟩

/-- One more. -/
theorem OutS.push {w0 w w1 : World} {v v' : Value} {Z : List Ev} {e : Ev} (h : OutS w0 w v Z) (hZ : Z.length ≤ 4096) (hown : w1.ownsRow w0.heap.size 60 5 v' (Z.length + 1) (evC Z ++ e.cells)) (hg : w.grownBy w1 v.ownBlock) : OutS w0 w1 v' (Z ++ [e]) := by
  have e1 : (Z ++ [e]).take 4097 = Z ++ [e] := List.take_of_length_le (by rw [List.length_append, List.length_singleton]; omega)
  refine ⟨grown_app h.gr (Nat.le_refl _) h.ow hg, ?_⟩
  rw [e1, evC_snoc, List.length_append, List.length_singleton]
  exact hown

theorem OutS.gr60 {w0 w w1 : World} {v : Value} {Z : List Ev} (h : OutS w0 w v Z) (hg : w.grownBy w1 v.ownBlock) : Gr w0.heap.size [60] w w1 := by
  refine Gr.of_row (e := 60) hg (fun k hk => ⟨(own_base h.ow hk).1, .inr ?_⟩) (by simp)
  rcases h.ow.2 with ⟨rfl, _⟩ | ⟨g, cap, cur, rfl, hB, hgg, _⟩
  · cases hk
  · injection hk with hk
    subst hk
    exact ⟨_, _, hgg⟩

/-- Where the walk is: at the very tick, or it has stopped. -/
def Stop (till b : Int) (Z : List Ev) (B : Int) : Prop := b ≤ B ∧ (b = B ∨ till ≤ b ∨ 4096 < Z.length)

theorem stop_rest {w0 w : World} {v : Value} {till B : Int} {Z Y : List Ev} (h : OutS w0 w v Z) (hs : till ≤ B ∨ 4096 < Z.length) (hY : till ≤ B → Y = []) : OutS w0 w v (Z ++ Y) := by
  rcases hs with hs | hs
  · rw [hY hs, List.append_nil]; exact h
  · exact h.full hs Y

end Go.Proofs.Ythmcicmebaibgaa.TOut
