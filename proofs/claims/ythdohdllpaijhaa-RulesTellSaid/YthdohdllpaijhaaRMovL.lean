/- What the law's premises give: plain. -/
import Derived.Test.YthdohdllpaijhaaRBits
namespace Go.Proofs.Ythdohdllpaijhaa.RMovL
open Go Go.Proofs.Ythdohdllpaijhaa.RMod Go.Proofs.Ythdohdllpaijhaa.RMov Go.Proofs.Ythdohdllpaijhaa.RBits
set_option linter.unusedVariables false

def upR (r : Ru) (b : Int) : Ru := ⟨r.low + b, r.high + b, r.above, r.leap, bitsUp r.classes b 12⟩

theorem moved_of {r : Ru} {g : List Int} {b : Int} (hb : 1 ≤ b) (h0 : 0 ≤ r.low) : Moved r (upR r b) g (g.map (· + b)) b where
  low := rfl
  high := rfl
  above := rfl
  leap := rfl
  may := fun k h1 h2 => (bits_moved (c := r.classes) (b := b) (by omega)).2.2 k (by omega)
  line := rfl

theorem wrong_moved {r : Ru} {g : List Int} {b : Int} (hb : 1 ≤ b) (h0 : 0 ≤ r.low) (hl : r.low ≤ r.high) (hh : r.high + b ≤ 127) (hc : 0 ≤ r.classes ∧ r.classes ≤ 4095) (hg : ∀ k ∈ g, 0 ≤ k ∧ k ≤ 127 - b) :
    wrongR (upR r b) (g.map (· + b)) = wrongR r g := by
  obtain ⟨b0, b1, _⟩ := bits_moved (c := r.classes) (b := b) (by omega)
  have k1 : g.all keyB = true := by
    rw [List.all_eq_true]
    intro k hk
    have := hg k hk
    unfold keyB
    rw [decide_eq_true (by omega), decide_eq_true (by omega)]
    rfl
  have k2 : (g.map (· + b)).all keyB = true := by
    rw [List.all_eq_true]
    intro k hk
    obtain ⟨k', hk', rfl⟩ := List.mem_map.1 hk
    have := hg k' hk'
    unfold keyB
    rw [decide_eq_true (by omega), decide_eq_true (by omega)]
    rfl
  unfold wrongR
  rw [List.length_map, k1, k2]
  have e : okR (upR r b) ↔ okR r := by
    unfold okR upR
    simp only
    constructor
    · rintro ⟨_, _, _, h, _, _⟩
      exact ⟨by omega, by omega, by omega, h, by omega, by omega⟩
    · rintro ⟨_, _, _, h, _, _⟩
      exact ⟨by omega, by omega, by omega, h, by omega, by omega⟩
  simp only [e]

end Go.Proofs.Ythdohdllpaijhaa.RMovL
