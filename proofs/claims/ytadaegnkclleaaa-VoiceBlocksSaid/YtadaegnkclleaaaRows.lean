/-
  No cell of these rows narrows 'for every input' (looked for: loops, veiled, ifaces, maps, wideKeys, modest, calm, conditions, laid).
  DERIVED. THE GIVEN ROWS OF THIS SEAT. 5 by the template 'for every input the law returns true; each argument reads behind the call as it read before'; 0 by the template 'total and deterministic' (their statements: YtadaegnkclleaaaTotals.lean).
  GIVEN WITH THE SEED: the statements are not yours to turn. If you find one false, say at which input.
  Laid BY PROGRAM, IN A SANDBOX (cutbox-rows.mjs): the forced cells as the released guide's own fill.sh prints them over the translation 4654442173c6f21a… (all of the seat's roots in one cut). By AI agents, Wed Nov 11 2026. No macro, syntax, notation, axiom, sorry.
-/
import Derived.Test.YtadaegnkclleaaaChecked
import GoSem.Claim
import GoSem.ClaimJoined
import GoSem.ClaimMapViews
import Derived.JoinedTies
import Derived.KernelRfl
namespace Go.Proofs.Ytadaegnkclleaaa
/- THE CELL 'sum', in the pinned program and in every row, IS THE sha256 OF THE DUMP (.gsa) THAT YtadaegnkclleaaaProg.lean LOADS. Nothing in Lean hashes anything: it is a label: what it is worth is what the hold of that sum in a sandbox is worth. -/
noncomputable def Try.pinned : Pinned := { name := "ytadaegnkclleaaa", sum := "4654442173c6f21a76e9e6dc90758a68b20970c21a90295a711656bd9882b641", checked := Try.checked }
namespace Rows
def none {H : Type} : Left H := { results := [], args := [] }

/-- 'cantuslaw13.VoiceShapes': WHATEVER THE INPUT: true; the input reads as it did. -/
def voiceShapesSpec : ChangeSpec := { name := "voiceShapes", fn := fun _ => fun
  | [d1, d2, d3, d4] => { results := [.lit (.bool true)], args := [d1, d2, d3, d4] }
  | _ => none }
def voiceShapesRow : OpenClaim := { program := "ytadaegnkclleaaa", sum := "4654442173c6f21a76e9e6dc90758a68b20970c21a90295a711656bd9882b641", func := "cantus/cantuslaw13.VoiceShapes", spec := "voiceShapes", inPlace := ["math.Float64bits"], recurses := true, apart := false }
def VoiceShapesSaid : Prop := voiceShapesRow.holds Try.pinned (OpenSpec.ofChange voiceShapesSpec)

/-- ITS FALSE NEIGHBOUR: 'it returns false'. Refute it at one input. -/
def voiceShapesWrong : ChangeSpec := { name := "voiceShapes", fn := fun _ => fun
  | [d1, d2, d3, d4] => { results := [.lit (.bool false)], args := [d1, d2, d3, d4] }
  | _ => none }
def VoiceShapesWrongFalsely : Prop := voiceShapesRow.holds Try.pinned (OpenSpec.ofChange voiceShapesWrong)

/-- 'cantuslaw13.VoiceBound': WHATEVER THE INPUT: true; the input reads as it did. -/
def voiceBoundSpec : ChangeSpec := { name := "voiceBound", fn := fun _ => fun
  | [d1, d2, d3, d4] => { results := [.lit (.bool true)], args := [d1, d2, d3, d4] }
  | _ => none }
def voiceBoundRow : OpenClaim := { program := "ytadaegnkclleaaa", sum := "4654442173c6f21a76e9e6dc90758a68b20970c21a90295a711656bd9882b641", func := "cantus/cantuslaw13.VoiceBound", spec := "voiceBound", apart := false }
def VoiceBoundSaid : Prop := voiceBoundRow.holds Try.pinned (OpenSpec.ofChange voiceBoundSpec)

/-- ITS FALSE NEIGHBOUR: 'it returns false'. Refute it at one input. -/
def voiceBoundWrong : ChangeSpec := { name := "voiceBound", fn := fun _ => fun
  | [d1, d2, d3, d4] => { results := [.lit (.bool false)], args := [d1, d2, d3, d4] }
  | _ => none }
def VoiceBoundWrongFalsely : Prop := voiceBoundRow.holds Try.pinned (OpenSpec.ofChange voiceBoundWrong)

/-- 'cantuslaw13.VoiceEnds': WHATEVER THE INPUT: true; the input reads as it did. -/
def voiceEndsSpec : ChangeSpec := { name := "voiceEnds", fn := fun _ => fun
  | [d1, d2, d3] => { results := [.lit (.bool true)], args := [d1, d2, d3] }
  | _ => none }
def voiceEndsRow : OpenClaim := { program := "ytadaegnkclleaaa", sum := "4654442173c6f21a76e9e6dc90758a68b20970c21a90295a711656bd9882b641", func := "cantus/cantuslaw13.VoiceEnds", spec := "voiceEnds", apart := false }
def VoiceEndsSaid : Prop := voiceEndsRow.holds Try.pinned (OpenSpec.ofChange voiceEndsSpec)

/-- ITS FALSE NEIGHBOUR: 'it returns false'. Refute it at one input. -/
def voiceEndsWrong : ChangeSpec := { name := "voiceEnds", fn := fun _ => fun
  | [d1, d2, d3] => { results := [.lit (.bool false)], args := [d1, d2, d3] }
  | _ => none }
def VoiceEndsWrongFalsely : Prop := voiceEndsRow.holds Try.pinned (OpenSpec.ofChange voiceEndsWrong)

/-- 'cantuslaw13.VoiceSings': WHATEVER THE INPUT: true; the input reads as it did. -/
def voiceSingsSpec : ChangeSpec := { name := "voiceSings", fn := fun _ => fun
  | [d1, d2] => { results := [.lit (.bool true)], args := [d1, d2] }
  | _ => none }
def voiceSingsRow : OpenClaim := { program := "ytadaegnkclleaaa", sum := "4654442173c6f21a76e9e6dc90758a68b20970c21a90295a711656bd9882b641", func := "cantus/cantuslaw13.VoiceSings", spec := "voiceSings", inPlace := ["math.Float64bits"], recurses := true, apart := false }
def VoiceSingsSaid : Prop := voiceSingsRow.holds Try.pinned (OpenSpec.ofChange voiceSingsSpec)

/-- ITS FALSE NEIGHBOUR: 'it returns false'. Refute it at one input. -/
def voiceSingsWrong : ChangeSpec := { name := "voiceSings", fn := fun _ => fun
  | [d1, d2] => { results := [.lit (.bool false)], args := [d1, d2] }
  | _ => none }
def VoiceSingsWrongFalsely : Prop := voiceSingsRow.holds Try.pinned (OpenSpec.ofChange voiceSingsWrong)

/-- 'cantuslaw13.VoiceBlocks': WHATEVER THE INPUT: true; the input reads as it did. -/
def voiceBlocksSpec : ChangeSpec := { name := "voiceBlocks", fn := fun _ => fun
  | [d1, d2, d3] => { results := [.lit (.bool true)], args := [d1, d2, d3] }
  | _ => none }
def voiceBlocksRow : OpenClaim := { program := "ytadaegnkclleaaa", sum := "4654442173c6f21a76e9e6dc90758a68b20970c21a90295a711656bd9882b641", func := "cantus/cantuslaw13.VoiceBlocks", spec := "voiceBlocks", inPlace := ["math.Float64bits"], apart := false }
def VoiceBlocksSaid : Prop := voiceBlocksRow.holds Try.pinned (OpenSpec.ofChange voiceBlocksSpec)

/-- ITS FALSE NEIGHBOUR: 'it returns false'. Refute it at one input. -/
def voiceBlocksWrong : ChangeSpec := { name := "voiceBlocks", fn := fun _ => fun
  | [d1, d2, d3] => { results := [.lit (.bool false)], args := [d1, d2, d3] }
  | _ => none }
def VoiceBlocksWrongFalsely : Prop := voiceBlocksRow.holds Try.pinned (OpenSpec.ofChange voiceBlocksWrong)

/- THE SECOND FORM. 'bulk': how many values and letters a reading holds, each counted each time it is reached (what is shared counts as often as it is met; a slice's spare places count too). A statement '..UptoSaid' is the law's where the arguments, and the package variables that the reading takes, are together of bulk at most 1048576: NARROWER than '..Said'. Prove '..Said' where nothing that the law and all that it calls make is longer than what came in: it says more and counts as full. Else prove '..UptoSaid'. A law counts once. -/
mutual
def uptoBulk {H : Type} : DataW H → Nat
  | .lit (.string bytes) => bytes.length + 1
  | .lit _ => 1
  | .nil => 1
  | .ptr d => uptoBulk d + 1
  | .slice elems spare => uptoBulkAll elems + uptoBulkAll spare + 1
  | .agg parts => uptoBulkAll parts + 1
  | .iface _ d => uptoBulk d + 1
  | .map entries => uptoBulkEntries entries + 1
  | .held _ => 1
def uptoBulkAll {H : Type} : List (DataW H) → Nat
  | [] => 0
  | d :: r => uptoBulk d + uptoBulkAll r
def uptoBulkEntries {H : Type} : List (Lit × DataW H) → Nat
  | [] => 0
  | x :: r => uptoBulkEntry x + uptoBulkEntries r
def uptoBulkEntry {H : Type} : Lit × DataW H → Nat
  | (.string bytes, d) => bytes.length + uptoBulk d + 1
  | (_, d) => uptoBulk d + 1
 end
def uptoSmall : (H : Type) → List (DataW H) → Bool := fun _ ds => decide (uptoBulkAll ds ≤ 1048576)
def OpenSpec.upto (s : _root_.Go.ChangeSpec) : _root_.Go.OpenSpec := { _root_.Go.OpenSpec.ofChange s with cond := some uptoSmall }

/-- 'cantuslaw13.VoiceShapes', WHERE WHAT IT READS IS OF BULK AT MOST 1048576: true; the input reads as it did. -/
def voiceShapesUptoRow : OpenClaim := { program := "ytadaegnkclleaaa", sum := "4654442173c6f21a76e9e6dc90758a68b20970c21a90295a711656bd9882b641", func := "cantus/cantuslaw13.VoiceShapes", spec := "voiceShapes", inPlace := ["math.Float64bits"], recurses := true, apart := false, narrowed := true }
def VoiceShapesUptoSaid : Prop := voiceShapesUptoRow.holds Try.pinned (OpenSpec.upto voiceShapesSpec)

/-- 'cantuslaw13.VoiceBound', WHERE WHAT IT READS IS OF BULK AT MOST 1048576: true; the input reads as it did. -/
def voiceBoundUptoRow : OpenClaim := { program := "ytadaegnkclleaaa", sum := "4654442173c6f21a76e9e6dc90758a68b20970c21a90295a711656bd9882b641", func := "cantus/cantuslaw13.VoiceBound", spec := "voiceBound", apart := false, narrowed := true }
def VoiceBoundUptoSaid : Prop := voiceBoundUptoRow.holds Try.pinned (OpenSpec.upto voiceBoundSpec)

/-- 'cantuslaw13.VoiceEnds', WHERE WHAT IT READS IS OF BULK AT MOST 1048576: true; the input reads as it did. -/
def voiceEndsUptoRow : OpenClaim := { program := "ytadaegnkclleaaa", sum := "4654442173c6f21a76e9e6dc90758a68b20970c21a90295a711656bd9882b641", func := "cantus/cantuslaw13.VoiceEnds", spec := "voiceEnds", apart := false, narrowed := true }
def VoiceEndsUptoSaid : Prop := voiceEndsUptoRow.holds Try.pinned (OpenSpec.upto voiceEndsSpec)

/-- 'cantuslaw13.VoiceSings', WHERE WHAT IT READS IS OF BULK AT MOST 1048576: true; the input reads as it did. -/
def voiceSingsUptoRow : OpenClaim := { program := "ytadaegnkclleaaa", sum := "4654442173c6f21a76e9e6dc90758a68b20970c21a90295a711656bd9882b641", func := "cantus/cantuslaw13.VoiceSings", spec := "voiceSings", inPlace := ["math.Float64bits"], recurses := true, apart := false, narrowed := true }
def VoiceSingsUptoSaid : Prop := voiceSingsUptoRow.holds Try.pinned (OpenSpec.upto voiceSingsSpec)

/-- 'cantuslaw13.VoiceBlocks', WHERE WHAT IT READS IS OF BULK AT MOST 1048576: true; the input reads as it did. -/
def voiceBlocksUptoRow : OpenClaim := { program := "ytadaegnkclleaaa", sum := "4654442173c6f21a76e9e6dc90758a68b20970c21a90295a711656bd9882b641", func := "cantus/cantuslaw13.VoiceBlocks", spec := "voiceBlocks", inPlace := ["math.Float64bits"], apart := false, narrowed := true }
def VoiceBlocksUptoSaid : Prop := voiceBlocksUptoRow.holds Try.pinned (OpenSpec.upto voiceBlocksSpec)

end Rows
end Go.Proofs.Ytadaegnkclleaaa
