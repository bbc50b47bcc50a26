/-
  No cell of these rows narrows 'for every input' (looked for: loops, veiled, ifaces, maps, wideKeys, modest, calm, conditions, laid).
  DERIVED. THE GIVEN ROWS OF THIS SEAT. 3 by the template 'for every input the law returns true; each argument reads behind the call as it read before'; 0 by the template 'total and deterministic' (their statements: YtlinbocnhmkoeaaTotals.lean).
  GIVEN WITH THE SEED: the statements are not yours to turn. If you find one false, say at which input.
  Laid BY PROGRAM, IN A SANDBOX (cutbox-rows.mjs): the forced cells as the released guide's own fill.sh prints them over the translation 52c2c075ccc3382a… (all of the seat's roots in one cut). By AI agents, Wed Nov 11 2026. No macro, syntax, notation, axiom, sorry.
-/
import Derived.Test.YtlinbocnhmkoeaaChecked
import GoSem.Claim
import GoSem.ClaimJoined
import GoSem.ClaimMapViews
import Derived.JoinedTies
import Derived.KernelRfl
namespace Go.Proofs.Ytlinbocnhmkoeaa
/- THE CELL 'sum', in the pinned program and in every row, IS THE sha256 OF THE DUMP (.gsa) THAT YtlinbocnhmkoeaaProg.lean LOADS. Nothing in Lean hashes anything: it is a label: what it is worth is what the hold of that sum in a sandbox is worth. -/
noncomputable def Try.pinned : Pinned := { name := "ytlinbocnhmkoeaa", sum := "52c2c075ccc3382a09e6343e2f17b4de030a1fd8fc1667c8525d83c8c26aab86", checked := Try.checked }
namespace Rows
def none {H : Type} : Left H := { results := [], args := [] }

/-- 'cantuslaw10.StaveBreaks': WHATEVER THE INPUT: true; the input reads as it did. -/
def staveBreaksSpec : ChangeSpec := { name := "staveBreaks", fn := fun _ => fun
  | [d1, d2, d3] => { results := [.lit (.bool true)], args := [d1, d2, d3] }
  | _ => none }
def staveBreaksRow : OpenClaim := { program := "ytlinbocnhmkoeaa", sum := "52c2c075ccc3382a09e6343e2f17b4de030a1fd8fc1667c8525d83c8c26aab86", func := "cantus/cantuslaw10.StaveBreaks", spec := "staveBreaks", apart := false }
def StaveBreaksSaid : Prop := staveBreaksRow.holds Try.pinned (OpenSpec.ofChange staveBreaksSpec)

/-- ITS FALSE NEIGHBOUR: 'it returns false'. Refute it at one input. -/
def staveBreaksWrong : ChangeSpec := { name := "staveBreaks", fn := fun _ => fun
  | [d1, d2, d3] => { results := [.lit (.bool false)], args := [d1, d2, d3] }
  | _ => none }
def StaveBreaksWrongFalsely : Prop := staveBreaksRow.holds Try.pinned (OpenSpec.ofChange staveBreaksWrong)

/-- 'cantuslaw10.StaveBest': WHATEVER THE INPUT: true; the input reads as it did. -/
def staveBestSpec : ChangeSpec := { name := "staveBest", fn := fun _ => fun
  | [d1, d2, d3] => { results := [.lit (.bool true)], args := [d1, d2, d3] }
  | _ => none }
def staveBestRow : OpenClaim := { program := "ytlinbocnhmkoeaa", sum := "52c2c075ccc3382a09e6343e2f17b4de030a1fd8fc1667c8525d83c8c26aab86", func := "cantus/cantuslaw10.StaveBest", spec := "staveBest", apart := false }
def StaveBestSaid : Prop := staveBestRow.holds Try.pinned (OpenSpec.ofChange staveBestSpec)

/-- ITS FALSE NEIGHBOUR: 'it returns false'. Refute it at one input. -/
def staveBestWrong : ChangeSpec := { name := "staveBest", fn := fun _ => fun
  | [d1, d2, d3] => { results := [.lit (.bool false)], args := [d1, d2, d3] }
  | _ => none }
def StaveBestWrongFalsely : Prop := staveBestRow.holds Try.pinned (OpenSpec.ofChange staveBestWrong)

/-- 'cantuslaw10.StaveWhole': WHATEVER THE INPUT: true; the input reads as it did. -/
def staveWholeSpec : ChangeSpec := { name := "staveWhole", fn := fun _ => fun
  | [d1, d2] => { results := [.lit (.bool true)], args := [d1, d2] }
  | _ => none }
def staveWholeRow : OpenClaim := { program := "ytlinbocnhmkoeaa", sum := "52c2c075ccc3382a09e6343e2f17b4de030a1fd8fc1667c8525d83c8c26aab86", func := "cantus/cantuslaw10.StaveWhole", spec := "staveWhole", apart := false }
def StaveWholeSaid : Prop := staveWholeRow.holds Try.pinned (OpenSpec.ofChange staveWholeSpec)

/-- ITS FALSE NEIGHBOUR: 'it returns false'. Refute it at one input. -/
def staveWholeWrong : ChangeSpec := { name := "staveWhole", fn := fun _ => fun
  | [d1, d2] => { results := [.lit (.bool false)], args := [d1, d2] }
  | _ => none }
def StaveWholeWrongFalsely : Prop := staveWholeRow.holds Try.pinned (OpenSpec.ofChange staveWholeWrong)

/- THE SECOND FORM. 'bulk': how many values and letters a reading holds, each counted each time it is reached (what is shared counts as often as it is met; a slice's spare places count too). A statement '..UptoSaid' is the law's where the arguments, and the package variables that the reading takes, are together of bulk at most 1048576: NARROWER than '..Said'. Prove '..Said' where nothing that the law and all that it calls make is longer than what came in: it says more and counts as full. Else prove '..UptoSaid'. A law counts once. -/
mutual
def uptoBulk {H : Type} : DataW H → Nat
  | .lit (.string bytes) => bytes.length + 1
  | .lit _ => 1
  | .nil => 1
  | .ptr d => uptoBulk d + 1
  | .slice elems spare => uptoBulkAll elems + uptoBulkAll spare + 1
  | .agg parts => uptoBulkAll parts + 1
  | .iface _ d => uptoBulk d + 1
  | .map entries => uptoBulkEntries entries + 1
  | .held _ => 1
def uptoBulkAll {H : Type} : List (DataW H) → Nat
  | [] => 0
  | d :: r => uptoBulk d + uptoBulkAll r
def uptoBulkEntries {H : Type} : List (Lit × DataW H) → Nat
  | [] => 0
  | x :: r => uptoBulkEntry x + uptoBulkEntries r
def uptoBulkEntry {H : Type} : Lit × DataW H → Nat
  | (.string bytes, d) => bytes.length + uptoBulk d + 1
  | (_, d) => uptoBulk d + 1
 end
def uptoSmall : (H : Type) → List (DataW H) → Bool := fun _ ds => decide (uptoBulkAll ds ≤ 1048576)
def OpenSpec.upto (s : _root_.Go.ChangeSpec) : _root_.Go.OpenSpec := { _root_.Go.OpenSpec.ofChange s with cond := some uptoSmall }

/-- 'cantuslaw10.StaveBreaks', WHERE WHAT IT READS IS OF BULK AT MOST 1048576: true; the input reads as it did. -/
def staveBreaksUptoRow : OpenClaim := { program := "ytlinbocnhmkoeaa", sum := "52c2c075ccc3382a09e6343e2f17b4de030a1fd8fc1667c8525d83c8c26aab86", func := "cantus/cantuslaw10.StaveBreaks", spec := "staveBreaks", apart := false, narrowed := true }
def StaveBreaksUptoSaid : Prop := staveBreaksUptoRow.holds Try.pinned (OpenSpec.upto staveBreaksSpec)

/-- 'cantuslaw10.StaveBest', WHERE WHAT IT READS IS OF BULK AT MOST 1048576: true; the input reads as it did. -/
def staveBestUptoRow : OpenClaim := { program := "ytlinbocnhmkoeaa", sum := "52c2c075ccc3382a09e6343e2f17b4de030a1fd8fc1667c8525d83c8c26aab86", func := "cantus/cantuslaw10.StaveBest", spec := "staveBest", apart := false, narrowed := true }
def StaveBestUptoSaid : Prop := staveBestUptoRow.holds Try.pinned (OpenSpec.upto staveBestSpec)

/-- 'cantuslaw10.StaveWhole', WHERE WHAT IT READS IS OF BULK AT MOST 1048576: true; the input reads as it did. -/
def staveWholeUptoRow : OpenClaim := { program := "ytlinbocnhmkoeaa", sum := "52c2c075ccc3382a09e6343e2f17b4de030a1fd8fc1667c8525d83c8c26aab86", func := "cantus/cantuslaw10.StaveWhole", spec := "staveWhole", apart := false, narrowed := true }
def StaveWholeUptoSaid : Prop := staveWholeUptoRow.holds Try.pinned (OpenSpec.upto staveWholeSpec)

end Rows
end Go.Proofs.Ytlinbocnhmkoeaa
