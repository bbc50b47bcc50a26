/-
  No cell of these rows narrows 'for every input' (looked for: loops, veiled, ifaces, maps, wideKeys, modest, calm, conditions, laid).
  DERIVED. THE GIVEN ROWS OF THIS SEAT. 4 by the template 'for every input the law returns true; each argument reads behind the call as it read before'; 0 by the template 'total and deterministic' (their statements: YtdliilmnfbgplaaTotals.lean).
  GIVEN WITH THE SEED: the statements are not yours to turn. If you find one false, say at which input.
  Laid BY PROGRAM, IN A SANDBOX (cutbox-rows.mjs): the forced cells as the released guide's own fill.sh prints them over the translation 84fc81a789345b6c… (all of the seat's roots in one cut). By AI agents, Wed Nov 11 2026. No macro, syntax, notation, axiom, sorry.
-/
import Derived.Test.YtdliilmnfbgplaaChecked
import GoSem.Claim
import GoSem.ClaimJoined
import GoSem.ClaimMapViews
import Derived.JoinedTies
import Derived.KernelRfl
namespace Go.Proofs.Ytdliilmnfbgplaa
/- THE CELL 'sum', in the pinned program and in every row, IS THE sha256 OF THE DUMP (.gsa) THAT YtdliilmnfbgplaaProg.lean LOADS. Nothing in Lean hashes anything: it is a label: what it is worth is what the hold of that sum in a sandbox is worth. -/
noncomputable def Try.pinned : Pinned := { name := "ytdliilmnfbgplaa", sum := "84fc81a789345b6c1b1c1ea8e38a5f351c0948f60f942b26b162550e56bc4fde", checked := Try.checked }
namespace Rows
def none {H : Type} : Left H := { results := [], args := [] }

/-- 'cantuslaw15.GraphRuns': WHATEVER THE INPUT: true; the input reads as it did. -/
def graphRunsSpec : ChangeSpec := { name := "graphRuns", fn := fun _ => fun
  | [d1, d2] => { results := [.lit (.bool true)], args := [d1, d2] }
  | _ => none }
def graphRunsRow : OpenClaim := { program := "ytdliilmnfbgplaa", sum := "84fc81a789345b6c1b1c1ea8e38a5f351c0948f60f942b26b162550e56bc4fde", func := "cantus/cantuslaw15.GraphRuns", spec := "graphRuns", inPlace := ["math.Float64bits"], unfollowed := true, recurses := true, apart := false }
def GraphRunsSaid : Prop := graphRunsRow.holds Try.pinned (OpenSpec.ofChange graphRunsSpec)

/-- ITS FALSE NEIGHBOUR: 'it returns false'. Refute it at one input. -/
def graphRunsWrong : ChangeSpec := { name := "graphRuns", fn := fun _ => fun
  | [d1, d2] => { results := [.lit (.bool false)], args := [d1, d2] }
  | _ => none }
def GraphRunsWrongFalsely : Prop := graphRunsRow.holds Try.pinned (OpenSpec.ofChange graphRunsWrong)

/-- 'cantuslaw15.GraphBlocks': WHATEVER THE INPUT: true; the input reads as it did. -/
def graphBlocksSpec : ChangeSpec := { name := "graphBlocks", fn := fun _ => fun
  | [d1, d2, d3] => { results := [.lit (.bool true)], args := [d1, d2, d3] }
  | _ => none }
def graphBlocksRow : OpenClaim := { program := "ytdliilmnfbgplaa", sum := "84fc81a789345b6c1b1c1ea8e38a5f351c0948f60f942b26b162550e56bc4fde", func := "cantus/cantuslaw15.GraphBlocks", spec := "graphBlocks", inPlace := ["math.Float64bits"], unfollowed := true, recurses := true, apart := false }
def GraphBlocksSaid : Prop := graphBlocksRow.holds Try.pinned (OpenSpec.ofChange graphBlocksSpec)

/-- ITS FALSE NEIGHBOUR: 'it returns false'. Refute it at one input. -/
def graphBlocksWrong : ChangeSpec := { name := "graphBlocks", fn := fun _ => fun
  | [d1, d2, d3] => { results := [.lit (.bool false)], args := [d1, d2, d3] }
  | _ => none }
def GraphBlocksWrongFalsely : Prop := graphBlocksRow.holds Try.pinned (OpenSpec.ofChange graphBlocksWrong)

/-- 'cantuslaw15.GraphOrder': WHATEVER THE INPUT: true; the input reads as it did. -/
def graphOrderSpec : ChangeSpec := { name := "graphOrder", fn := fun _ => fun
  | [d1, d2, d3, d4] => { results := [.lit (.bool true)], args := [d1, d2, d3, d4] }
  | _ => none }
def graphOrderRow : OpenClaim := { program := "ytdliilmnfbgplaa", sum := "84fc81a789345b6c1b1c1ea8e38a5f351c0948f60f942b26b162550e56bc4fde", func := "cantus/cantuslaw15.GraphOrder", spec := "graphOrder", inPlace := ["math.Float64bits"], unfollowed := true, recurses := true, apart := false }
def GraphOrderSaid : Prop := graphOrderRow.holds Try.pinned (OpenSpec.ofChange graphOrderSpec)

/-- ITS FALSE NEIGHBOUR: 'it returns false'. Refute it at one input. -/
def graphOrderWrong : ChangeSpec := { name := "graphOrder", fn := fun _ => fun
  | [d1, d2, d3, d4] => { results := [.lit (.bool false)], args := [d1, d2, d3, d4] }
  | _ => none }
def GraphOrderWrongFalsely : Prop := graphOrderRow.holds Try.pinned (OpenSpec.ofChange graphOrderWrong)

/-- 'cantuslaw15.GraphRests': WHATEVER THE INPUT: true; the input reads as it did. -/
def graphRestsSpec : ChangeSpec := { name := "graphRests", fn := fun _ => fun
  | [d1, d2, d3, d4] => { results := [.lit (.bool true)], args := [d1, d2, d3, d4] }
  | _ => none }
def graphRestsRow : OpenClaim := { program := "ytdliilmnfbgplaa", sum := "84fc81a789345b6c1b1c1ea8e38a5f351c0948f60f942b26b162550e56bc4fde", func := "cantus/cantuslaw15.GraphRests", spec := "graphRests", inPlace := ["math.Float64bits"], unfollowed := true, recurses := true, apart := false }
def GraphRestsSaid : Prop := graphRestsRow.holds Try.pinned (OpenSpec.ofChange graphRestsSpec)

/-- ITS FALSE NEIGHBOUR: 'it returns false'. Refute it at one input. -/
def graphRestsWrong : ChangeSpec := { name := "graphRests", fn := fun _ => fun
  | [d1, d2, d3, d4] => { results := [.lit (.bool false)], args := [d1, d2, d3, d4] }
  | _ => none }
def GraphRestsWrongFalsely : Prop := graphRestsRow.holds Try.pinned (OpenSpec.ofChange graphRestsWrong)

/- THE SECOND FORM. 'bulk': how many values and letters a reading holds, each counted each time it is reached (what is shared counts as often as it is met; a slice's spare places count too). A statement '..UptoSaid' is the law's where the arguments, and the package variables that the reading takes, are together of bulk at most 1048576: NARROWER than '..Said'. Prove '..Said' where nothing that the law and all that it calls make is longer than what came in: it says more and counts as full. Else prove '..UptoSaid'. A law counts once. -/
mutual
def uptoBulk {H : Type} : DataW H → Nat
  | .lit (.string bytes) => bytes.length + 1
  | .lit _ => 1
  | .nil => 1
  | .ptr d => uptoBulk d + 1
  | .slice elems spare => uptoBulkAll elems + uptoBulkAll spare + 1
  | .agg parts => uptoBulkAll parts + 1
  | .iface _ d => uptoBulk d + 1
  | .map entries => uptoBulkEntries entries + 1
  | .held _ => 1
def uptoBulkAll {H : Type} : List (DataW H) → Nat
  | [] => 0
  | d :: r => uptoBulk d + uptoBulkAll r
def uptoBulkEntries {H : Type} : List (Lit × DataW H) → Nat
  | [] => 0
  | x :: r => uptoBulkEntry x + uptoBulkEntries r
def uptoBulkEntry {H : Type} : Lit × DataW H → Nat
  | (.string bytes, d) => bytes.length + uptoBulk d + 1
  | (_, d) => uptoBulk d + 1
 end
def uptoSmall : (H : Type) → List (DataW H) → Bool := fun _ ds => decide (uptoBulkAll ds ≤ 1048576)
def OpenSpec.upto (s : _root_.Go.ChangeSpec) : _root_.Go.OpenSpec := { _root_.Go.OpenSpec.ofChange s with cond := some uptoSmall }

/-- 'cantuslaw15.GraphRuns', WHERE WHAT IT READS IS OF BULK AT MOST 1048576: true; the input reads as it did. -/
def graphRunsUptoRow : OpenClaim := { program := "ytdliilmnfbgplaa", sum := "84fc81a789345b6c1b1c1ea8e38a5f351c0948f60f942b26b162550e56bc4fde", func := "cantus/cantuslaw15.GraphRuns", spec := "graphRuns", inPlace := ["math.Float64bits"], unfollowed := true, recurses := true, apart := false, narrowed := true }
def GraphRunsUptoSaid : Prop := graphRunsUptoRow.holds Try.pinned (OpenSpec.upto graphRunsSpec)

/-- 'cantuslaw15.GraphBlocks', WHERE WHAT IT READS IS OF BULK AT MOST 1048576: true; the input reads as it did. -/
def graphBlocksUptoRow : OpenClaim := { program := "ytdliilmnfbgplaa", sum := "84fc81a789345b6c1b1c1ea8e38a5f351c0948f60f942b26b162550e56bc4fde", func := "cantus/cantuslaw15.GraphBlocks", spec := "graphBlocks", inPlace := ["math.Float64bits"], unfollowed := true, recurses := true, apart := false, narrowed := true }
def GraphBlocksUptoSaid : Prop := graphBlocksUptoRow.holds Try.pinned (OpenSpec.upto graphBlocksSpec)

/-- 'cantuslaw15.GraphOrder', WHERE WHAT IT READS IS OF BULK AT MOST 1048576: true; the input reads as it did. -/
def graphOrderUptoRow : OpenClaim := { program := "ytdliilmnfbgplaa", sum := "84fc81a789345b6c1b1c1ea8e38a5f351c0948f60f942b26b162550e56bc4fde", func := "cantus/cantuslaw15.GraphOrder", spec := "graphOrder", inPlace := ["math.Float64bits"], unfollowed := true, recurses := true, apart := false, narrowed := true }
def GraphOrderUptoSaid : Prop := graphOrderUptoRow.holds Try.pinned (OpenSpec.upto graphOrderSpec)

/-- 'cantuslaw15.GraphRests', WHERE WHAT IT READS IS OF BULK AT MOST 1048576: true; the input reads as it did. -/
def graphRestsUptoRow : OpenClaim := { program := "ytdliilmnfbgplaa", sum := "84fc81a789345b6c1b1c1ea8e38a5f351c0948f60f942b26b162550e56bc4fde", func := "cantus/cantuslaw15.GraphRests", spec := "graphRests", inPlace := ["math.Float64bits"], unfollowed := true, recurses := true, apart := false, narrowed := true }
def GraphRestsUptoSaid : Prop := graphRestsUptoRow.holds Try.pinned (OpenSpec.upto graphRestsSpec)

end Rows
end Go.Proofs.Ytdliilmnfbgplaa
