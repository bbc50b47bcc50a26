/-
  No cell of these rows narrows 'for every input' (looked for: loops, veiled, ifaces, maps, wideKeys, modest, calm, conditions, laid).
  DERIVED. THE GIVEN ROWS OF THIS SEAT. 3 by the template 'for every input the law returns true; each argument reads behind the call as it read before'; 0 by the template 'total and deterministic' (their statements: YthdohdllpaijhaaTotals.lean).
  GIVEN WITH THE SEED: the statements are not yours to turn. If you find one false, say at which input.
  Laid BY PROGRAM, IN A SANDBOX (cutbox-rows.mjs): the forced cells as the released guide's own fill.sh prints them over the translation e20ba76ef8ccee88… (all of the seat's roots in one cut). By AI agents, Wed Nov 11 2026. No macro, syntax, notation, axiom, sorry.
-/
import Derived.Test.YthdohdllpaijhaaChecked
import GoSem.Claim
import GoSem.ClaimJoined
import GoSem.ClaimMapViews
import Derived.JoinedTies
import Derived.KernelRfl
namespace Go.Proofs.Ythdohdllpaijhaa
/- THE CELL 'sum', in the pinned program and in every row, IS THE sha256 OF THE DUMP (.gsa) THAT YthdohdllpaijhaaProg.lean LOADS. Nothing in Lean hashes anything: it is a label: what it is worth is what the hold of that sum in a sandbox is worth. -/
noncomputable def Try.pinned : Pinned := { name := "ythdohdllpaijhaa", sum := "e20ba76ef8ccee8811d4131f6a93fbf9d0b67b24db645d2fc53b312d4c62ac64", checked := Try.checked }
namespace Rows
def none {H : Type} : Left H := { results := [], args := [] }

/-- 'cantuslaw8.RulesMoved': WHATEVER THE INPUT: true; the input reads as it did. -/
def rulesMovedSpec : ChangeSpec := { name := "rulesMoved", fn := fun _ => fun
  | [d1, d2, d3] => { results := [.lit (.bool true)], args := [d1, d2, d3] }
  | _ => none }
def rulesMovedRow : OpenClaim := { program := "ythdohdllpaijhaa", sum := "e20ba76ef8ccee8811d4131f6a93fbf9d0b67b24db645d2fc53b312d4c62ac64", func := "cantus/cantuslaw8.RulesMoved", spec := "rulesMoved", plainKeys := false, apart := false }
def RulesMovedSaid : Prop := rulesMovedRow.holds Try.pinned (OpenSpec.ofChange rulesMovedSpec)

/-- ITS FALSE NEIGHBOUR: 'it returns false'. Refute it at one input. -/
def rulesMovedWrong : ChangeSpec := { name := "rulesMoved", fn := fun _ => fun
  | [d1, d2, d3] => { results := [.lit (.bool false)], args := [d1, d2, d3] }
  | _ => none }
def RulesMovedWrongFalsely : Prop := rulesMovedRow.holds Try.pinned (OpenSpec.ofChange rulesMovedWrong)

/-- 'cantuslaw8.RulesTell': WHATEVER THE INPUT: true; the input reads as it did. -/
def rulesTellSpec : ChangeSpec := { name := "rulesTell", fn := fun _ => fun
  | [d1, d2, d3] => { results := [.lit (.bool true)], args := [d1, d2, d3] }
  | _ => none }
def rulesTellRow : OpenClaim := { program := "ythdohdllpaijhaa", sum := "e20ba76ef8ccee8811d4131f6a93fbf9d0b67b24db645d2fc53b312d4c62ac64", func := "cantus/cantuslaw8.RulesTell", spec := "rulesTell", plainKeys := false, apart := false }
def RulesTellSaid : Prop := rulesTellRow.holds Try.pinned (OpenSpec.ofChange rulesTellSpec)

/-- ITS FALSE NEIGHBOUR: 'it returns false'. Refute it at one input. -/
def rulesTellWrong : ChangeSpec := { name := "rulesTell", fn := fun _ => fun
  | [d1, d2, d3] => { results := [.lit (.bool false)], args := [d1, d2, d3] }
  | _ => none }
def RulesTellWrongFalsely : Prop := rulesTellRow.holds Try.pinned (OpenSpec.ofChange rulesTellWrong)

/-- 'cantuslaw8.RulesComplete': WHATEVER THE INPUT: true; the input reads as it did. -/
def rulesCompleteSpec : ChangeSpec := { name := "rulesComplete", fn := fun _ => fun
  | [d1, d2, d3] => { results := [.lit (.bool true)], args := [d1, d2, d3] }
  | _ => none }
def rulesCompleteRow : OpenClaim := { program := "ythdohdllpaijhaa", sum := "e20ba76ef8ccee8811d4131f6a93fbf9d0b67b24db645d2fc53b312d4c62ac64", func := "cantus/cantuslaw8.RulesComplete", spec := "rulesComplete", plainKeys := false, apart := false }
def RulesCompleteSaid : Prop := rulesCompleteRow.holds Try.pinned (OpenSpec.ofChange rulesCompleteSpec)

/-- ITS FALSE NEIGHBOUR: 'it returns false'. Refute it at one input. -/
def rulesCompleteWrong : ChangeSpec := { name := "rulesComplete", fn := fun _ => fun
  | [d1, d2, d3] => { results := [.lit (.bool false)], args := [d1, d2, d3] }
  | _ => none }
def RulesCompleteWrongFalsely : Prop := rulesCompleteRow.holds Try.pinned (OpenSpec.ofChange rulesCompleteWrong)

/- THE SECOND FORM. 'bulk': how many values and letters a reading holds, each counted each time it is reached (what is shared counts as often as it is met; a slice's spare places count too). A statement '..UptoSaid' is the law's where the arguments, and the package variables that the reading takes, are together of bulk at most 1048576: NARROWER than '..Said'. Prove '..Said' where nothing that the law and all that it calls make is longer than what came in: it says more and counts as full. Else prove '..UptoSaid'. A law counts once. -/
mutual
def uptoBulk {H : Type} : DataW H → Nat
  | .lit (.string bytes) => bytes.length + 1
  | .lit _ => 1
  | .nil => 1
  | .ptr d => uptoBulk d + 1
  | .slice elems spare => uptoBulkAll elems + uptoBulkAll spare + 1
  | .agg parts => uptoBulkAll parts + 1
  | .iface _ d => uptoBulk d + 1
  | .map entries => uptoBulkEntries entries + 1
  | .held _ => 1
def uptoBulkAll {H : Type} : List (DataW H) → Nat
  | [] => 0
  | d :: r => uptoBulk d + uptoBulkAll r
def uptoBulkEntries {H : Type} : List (Lit × DataW H) → Nat
  | [] => 0
  | x :: r => uptoBulkEntry x + uptoBulkEntries r
def uptoBulkEntry {H : Type} : Lit × DataW H → Nat
  | (.string bytes, d) => bytes.length + uptoBulk d + 1
  | (_, d) => uptoBulk d + 1
 end
def uptoSmall : (H : Type) → List (DataW H) → Bool := fun _ ds => decide (uptoBulkAll ds ≤ 1048576)
def OpenSpec.upto (s : _root_.Go.ChangeSpec) : _root_.Go.OpenSpec := { _root_.Go.OpenSpec.ofChange s with cond := some uptoSmall }

/-- 'cantuslaw8.RulesMoved', WHERE WHAT IT READS IS OF BULK AT MOST 1048576: true; the input reads as it did. -/
def rulesMovedUptoRow : OpenClaim := { program := "ythdohdllpaijhaa", sum := "e20ba76ef8ccee8811d4131f6a93fbf9d0b67b24db645d2fc53b312d4c62ac64", func := "cantus/cantuslaw8.RulesMoved", spec := "rulesMoved", plainKeys := false, apart := false, narrowed := true }
def RulesMovedUptoSaid : Prop := rulesMovedUptoRow.holds Try.pinned (OpenSpec.upto rulesMovedSpec)

/-- 'cantuslaw8.RulesTell', WHERE WHAT IT READS IS OF BULK AT MOST 1048576: true; the input reads as it did. -/
def rulesTellUptoRow : OpenClaim := { program := "ythdohdllpaijhaa", sum := "e20ba76ef8ccee8811d4131f6a93fbf9d0b67b24db645d2fc53b312d4c62ac64", func := "cantus/cantuslaw8.RulesTell", spec := "rulesTell", plainKeys := false, apart := false, narrowed := true }
def RulesTellUptoSaid : Prop := rulesTellUptoRow.holds Try.pinned (OpenSpec.upto rulesTellSpec)

/-- 'cantuslaw8.RulesComplete', WHERE WHAT IT READS IS OF BULK AT MOST 1048576: true; the input reads as it did. -/
def rulesCompleteUptoRow : OpenClaim := { program := "ythdohdllpaijhaa", sum := "e20ba76ef8ccee8811d4131f6a93fbf9d0b67b24db645d2fc53b312d4c62ac64", func := "cantus/cantuslaw8.RulesComplete", spec := "rulesComplete", plainKeys := false, apart := false, narrowed := true }
def RulesCompleteUptoSaid : Prop := rulesCompleteUptoRow.holds Try.pinned (OpenSpec.upto rulesCompleteSpec)

end Rows
end Go.Proofs.Ythdohdllpaijhaa
