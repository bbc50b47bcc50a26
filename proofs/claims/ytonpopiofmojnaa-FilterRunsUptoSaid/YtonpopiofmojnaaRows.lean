/-
  No cell of these rows narrows 'for every input' (looked for: loops, veiled, ifaces, maps, wideKeys, modest, calm, conditions, laid).
  DERIVED. THE GIVEN ROWS OF THIS SEAT. 4 by the template 'for every input the law returns true; each argument reads behind the call as it read before'; 0 by the template 'total and deterministic' (their statements: YtonpopiofmojnaaTotals.lean).
  GIVEN WITH THE SEED: the statements are not yours to turn. If you find one false, say at which input.
  Laid BY PROGRAM, IN A SANDBOX (cutbox-rows.mjs): the forced cells as the released guide's own fill.sh prints them over the translation ecdc13934463ac43… (all of the seat's roots in one cut). By AI agents, Wed Nov 11 2026. No macro, syntax, notation, axiom, sorry.
-/
import Derived.Test.YtonpopiofmojnaaChecked
import GoSem.Claim
import GoSem.ClaimJoined
import GoSem.ClaimMapViews
import Derived.JoinedTies
import Derived.KernelRfl
namespace Go.Proofs.Ytonpopiofmojnaa
/- THE CELL 'sum', in the pinned program and in every row, IS THE sha256 OF THE DUMP (.gsa) THAT YtonpopiofmojnaaProg.lean LOADS. Nothing in Lean hashes anything: it is a label: what it is worth is what the hold of that sum in a sandbox is worth. -/
noncomputable def Try.pinned : Pinned := { name := "ytonpopiofmojnaa", sum := "ecdc13934463ac438e07a23ff28ec524ea83e12e79487bc36dc6df5367de16b1", checked := Try.checked }
namespace Rows
def none {H : Type} : Left H := { results := [], args := [] }

/-- 'cantuslaw14.FilterRuns': WHATEVER THE INPUT: true; the input reads as it did. -/
def filterRunsSpec : ChangeSpec := { name := "filterRuns", fn := fun _ => fun
  | [d1, d2, d3] => { results := [.lit (.bool true)], args := [d1, d2, d3] }
  | _ => none }
def filterRunsRow : OpenClaim := { program := "ytonpopiofmojnaa", sum := "ecdc13934463ac438e07a23ff28ec524ea83e12e79487bc36dc6df5367de16b1", func := "cantus/cantuslaw14.FilterRuns", spec := "filterRuns", inPlace := ["math.Float64bits"], apart := false }
def FilterRunsSaid : Prop := filterRunsRow.holds Try.pinned (OpenSpec.ofChange filterRunsSpec)

/-- ITS FALSE NEIGHBOUR: 'it returns false'. Refute it at one input. -/
def filterRunsWrong : ChangeSpec := { name := "filterRuns", fn := fun _ => fun
  | [d1, d2, d3] => { results := [.lit (.bool false)], args := [d1, d2, d3] }
  | _ => none }
def FilterRunsWrongFalsely : Prop := filterRunsRow.holds Try.pinned (OpenSpec.ofChange filterRunsWrong)

/-- 'cantuslaw14.FilterLater': WHATEVER THE INPUT: true; the input reads as it did. -/
def filterLaterSpec : ChangeSpec := { name := "filterLater", fn := fun _ => fun
  | [d1, d2, d3] => { results := [.lit (.bool true)], args := [d1, d2, d3] }
  | _ => none }
def filterLaterRow : OpenClaim := { program := "ytonpopiofmojnaa", sum := "ecdc13934463ac438e07a23ff28ec524ea83e12e79487bc36dc6df5367de16b1", func := "cantus/cantuslaw14.FilterLater", spec := "filterLater", apart := false }
def FilterLaterSaid : Prop := filterLaterRow.holds Try.pinned (OpenSpec.ofChange filterLaterSpec)

/-- ITS FALSE NEIGHBOUR: 'it returns false'. Refute it at one input. -/
def filterLaterWrong : ChangeSpec := { name := "filterLater", fn := fun _ => fun
  | [d1, d2, d3] => { results := [.lit (.bool false)], args := [d1, d2, d3] }
  | _ => none }
def FilterLaterWrongFalsely : Prop := filterLaterRow.holds Try.pinned (OpenSpec.ofChange filterLaterWrong)

/-- 'cantuslaw14.FilterBlocks': WHATEVER THE INPUT: true; the input reads as it did. -/
def filterBlocksSpec : ChangeSpec := { name := "filterBlocks", fn := fun _ => fun
  | [d1, d2, d3] => { results := [.lit (.bool true)], args := [d1, d2, d3] }
  | _ => none }
def filterBlocksRow : OpenClaim := { program := "ytonpopiofmojnaa", sum := "ecdc13934463ac438e07a23ff28ec524ea83e12e79487bc36dc6df5367de16b1", func := "cantus/cantuslaw14.FilterBlocks", spec := "filterBlocks", inPlace := ["math.Float64bits"], apart := false }
def FilterBlocksSaid : Prop := filterBlocksRow.holds Try.pinned (OpenSpec.ofChange filterBlocksSpec)

/-- ITS FALSE NEIGHBOUR: 'it returns false'. Refute it at one input. -/
def filterBlocksWrong : ChangeSpec := { name := "filterBlocks", fn := fun _ => fun
  | [d1, d2, d3] => { results := [.lit (.bool false)], args := [d1, d2, d3] }
  | _ => none }
def FilterBlocksWrongFalsely : Prop := filterBlocksRow.holds Try.pinned (OpenSpec.ofChange filterBlocksWrong)

/-- 'cantuslaw14.FilterSigns': WHATEVER THE INPUT: true; the input reads as it did. -/
def filterSignsSpec : ChangeSpec := { name := "filterSigns", fn := fun _ => fun
  | [d1, d2] => { results := [.lit (.bool true)], args := [d1, d2] }
  | _ => none }
def filterSignsRow : OpenClaim := { program := "ytonpopiofmojnaa", sum := "ecdc13934463ac438e07a23ff28ec524ea83e12e79487bc36dc6df5367de16b1", func := "cantus/cantuslaw14.FilterSigns", spec := "filterSigns", inPlace := ["math.Float64bits"], apart := false }
def FilterSignsSaid : Prop := filterSignsRow.holds Try.pinned (OpenSpec.ofChange filterSignsSpec)

/-- ITS FALSE NEIGHBOUR: 'it returns false'. Refute it at one input. -/
def filterSignsWrong : ChangeSpec := { name := "filterSigns", fn := fun _ => fun
  | [d1, d2] => { results := [.lit (.bool false)], args := [d1, d2] }
  | _ => none }
def FilterSignsWrongFalsely : Prop := filterSignsRow.holds Try.pinned (OpenSpec.ofChange filterSignsWrong)

/- THE SECOND FORM. 'bulk': how many values and letters a reading holds, each counted each time it is reached (what is shared counts as often as it is met; a slice's spare places count too). A statement '..UptoSaid' is the law's where the arguments, and the package variables that the reading takes, are together of bulk at most 1048576: NARROWER than '..Said'. Prove '..Said' where nothing that the law and all that it calls make is longer than what came in: it says more and counts as full. Else prove '..UptoSaid'. A law counts once. -/
mutual
def uptoBulk {H : Type} : DataW H → Nat
  | .lit (.string bytes) => bytes.length + 1
  | .lit _ => 1
  | .nil => 1
  | .ptr d => uptoBulk d + 1
  | .slice elems spare => uptoBulkAll elems + uptoBulkAll spare + 1
  | .agg parts => uptoBulkAll parts + 1
  | .iface _ d => uptoBulk d + 1
  | .map entries => uptoBulkEntries entries + 1
  | .held _ => 1
def uptoBulkAll {H : Type} : List (DataW H) → Nat
  | [] => 0
  | d :: r => uptoBulk d + uptoBulkAll r
def uptoBulkEntries {H : Type} : List (Lit × DataW H) → Nat
  | [] => 0
  | x :: r => uptoBulkEntry x + uptoBulkEntries r
def uptoBulkEntry {H : Type} : Lit × DataW H → Nat
  | (.string bytes, d) => bytes.length + uptoBulk d + 1
  | (_, d) => uptoBulk d + 1
 end
def uptoSmall : (H : Type) → List (DataW H) → Bool := fun _ ds => decide (uptoBulkAll ds ≤ 1048576)
def OpenSpec.upto (s : _root_.Go.ChangeSpec) : _root_.Go.OpenSpec := { _root_.Go.OpenSpec.ofChange s with cond := some uptoSmall }

/-- 'cantuslaw14.FilterRuns', WHERE WHAT IT READS IS OF BULK AT MOST 1048576: true; the input reads as it did. -/
def filterRunsUptoRow : OpenClaim := { program := "ytonpopiofmojnaa", sum := "ecdc13934463ac438e07a23ff28ec524ea83e12e79487bc36dc6df5367de16b1", func := "cantus/cantuslaw14.FilterRuns", spec := "filterRuns", inPlace := ["math.Float64bits"], apart := false, narrowed := true }
def FilterRunsUptoSaid : Prop := filterRunsUptoRow.holds Try.pinned (OpenSpec.upto filterRunsSpec)

/-- 'cantuslaw14.FilterLater', WHERE WHAT IT READS IS OF BULK AT MOST 1048576: true; the input reads as it did. -/
def filterLaterUptoRow : OpenClaim := { program := "ytonpopiofmojnaa", sum := "ecdc13934463ac438e07a23ff28ec524ea83e12e79487bc36dc6df5367de16b1", func := "cantus/cantuslaw14.FilterLater", spec := "filterLater", apart := false, narrowed := true }
def FilterLaterUptoSaid : Prop := filterLaterUptoRow.holds Try.pinned (OpenSpec.upto filterLaterSpec)

/-- 'cantuslaw14.FilterBlocks', WHERE WHAT IT READS IS OF BULK AT MOST 1048576: true; the input reads as it did. -/
def filterBlocksUptoRow : OpenClaim := { program := "ytonpopiofmojnaa", sum := "ecdc13934463ac438e07a23ff28ec524ea83e12e79487bc36dc6df5367de16b1", func := "cantus/cantuslaw14.FilterBlocks", spec := "filterBlocks", inPlace := ["math.Float64bits"], apart := false, narrowed := true }
def FilterBlocksUptoSaid : Prop := filterBlocksUptoRow.holds Try.pinned (OpenSpec.upto filterBlocksSpec)

/-- 'cantuslaw14.FilterSigns', WHERE WHAT IT READS IS OF BULK AT MOST 1048576: true; the input reads as it did. -/
def filterSignsUptoRow : OpenClaim := { program := "ytonpopiofmojnaa", sum := "ecdc13934463ac438e07a23ff28ec524ea83e12e79487bc36dc6df5367de16b1", func := "cantus/cantuslaw14.FilterSigns", spec := "filterSigns", inPlace := ["math.Float64bits"], apart := false, narrowed := true }
def FilterSignsUptoSaid : Prop := filterSignsUptoRow.holds Try.pinned (OpenSpec.upto filterSignsSpec)

end Rows
end Go.Proofs.Ytonpopiofmojnaa
