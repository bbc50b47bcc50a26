/-
  NARROWER THAN 'FOR EVERY INPUT', by the rows' own cells (each row's printed sentence says how): StepsPlay: loops · StepsWindows: loops · StepsSeek: loops · StepsTimes: loops.
  DERIVED. THE GIVEN ROWS OF THIS SEAT. 4 by the template 'for every input the law returns true; each argument reads behind the call as it read before'; 0 by the template 'total and deterministic' (their statements: YthmcicmebaibgaaTotals.lean).
  GIVEN WITH THE SEED: the statements are not yours to turn. If you find one false, say at which input.
  Laid BY PROGRAM, IN A SANDBOX (cutbox-rows.mjs): the forced cells as the released guide's own fill.sh prints them over the translation 0ff65f4213d0acfa… (all of the seat's roots in one cut). By AI agents, Wed Nov 11 2026. No macro, syntax, notation, axiom, sorry.
-/
import Derived.Test.YthmcicmebaibgaaChecked
import GoSem.Claim
import GoSem.ClaimJoined
import GoSem.ClaimMapViews
import Derived.JoinedTies
import Derived.KernelRfl
namespace Go.Proofs.Ythmcicmebaibgaa
/- THE CELL 'sum', in the pinned program and in every row, IS THE sha256 OF THE DUMP (.gsa) THAT YthmcicmebaibgaaProg.lean LOADS. Nothing in Lean hashes anything: it is a label: what it is worth is what the hold of that sum in a sandbox is worth. -/
noncomputable def Try.pinned : Pinned := { name := "ythmcicmebaibgaa", sum := "0ff65f4213d0acfa3e7e221b29d12659957d3857a65bbe7bebfef1f28e80ab3c", checked := Try.checked }
namespace Rows
def none {H : Type} : Left H := { results := [], args := [] }

/-- 'cantuslaw12.StepsPlay': WHATEVER THE INPUT: true; the input reads as it did. -/
def stepsPlaySpec : ChangeSpec := { name := "stepsPlay", fn := fun _ => fun
  | [d1, d2] => { results := [.lit (.bool true)], args := [d1, d2] }
  | _ => none }
def stepsPlayRow : OpenClaim := { program := "ythmcicmebaibgaa", sum := "0ff65f4213d0acfa3e7e221b29d12659957d3857a65bbe7bebfef1f28e80ab3c", func := "cantus/cantuslaw12.StepsPlay", spec := "stepsPlay", unfollowed := true, recurses := true, loops := true, apart := false }
def StepsPlaySaid : Prop := stepsPlayRow.holds Try.pinned (OpenSpec.ofChange stepsPlaySpec)

/-- ITS FALSE NEIGHBOUR: 'it returns false'. Refute it at one input. -/
def stepsPlayWrong : ChangeSpec := { name := "stepsPlay", fn := fun _ => fun
  | [d1, d2] => { results := [.lit (.bool false)], args := [d1, d2] }
  | _ => none }
def StepsPlayWrongFalsely : Prop := stepsPlayRow.holds Try.pinned (OpenSpec.ofChange stepsPlayWrong)

/-- 'cantuslaw12.StepsWindows': WHATEVER THE INPUT: true; the input reads as it did. -/
def stepsWindowsSpec : ChangeSpec := { name := "stepsWindows", fn := fun _ => fun
  | [d1, d2] => { results := [.lit (.bool true)], args := [d1, d2] }
  | _ => none }
def stepsWindowsRow : OpenClaim := { program := "ythmcicmebaibgaa", sum := "0ff65f4213d0acfa3e7e221b29d12659957d3857a65bbe7bebfef1f28e80ab3c", func := "cantus/cantuslaw12.StepsWindows", spec := "stepsWindows", unfollowed := true, recurses := true, loops := true, apart := false }
def StepsWindowsSaid : Prop := stepsWindowsRow.holds Try.pinned (OpenSpec.ofChange stepsWindowsSpec)

/-- ITS FALSE NEIGHBOUR: 'it returns false'. Refute it at one input. -/
def stepsWindowsWrong : ChangeSpec := { name := "stepsWindows", fn := fun _ => fun
  | [d1, d2] => { results := [.lit (.bool false)], args := [d1, d2] }
  | _ => none }
def StepsWindowsWrongFalsely : Prop := stepsWindowsRow.holds Try.pinned (OpenSpec.ofChange stepsWindowsWrong)

/-- 'cantuslaw12.StepsSeek': WHATEVER THE INPUT: true; the input reads as it did. -/
def stepsSeekSpec : ChangeSpec := { name := "stepsSeek", fn := fun _ => fun
  | [d1, d2, d3] => { results := [.lit (.bool true)], args := [d1, d2, d3] }
  | _ => none }
def stepsSeekRow : OpenClaim := { program := "ythmcicmebaibgaa", sum := "0ff65f4213d0acfa3e7e221b29d12659957d3857a65bbe7bebfef1f28e80ab3c", func := "cantus/cantuslaw12.StepsSeek", spec := "stepsSeek", unfollowed := true, recurses := true, loops := true, apart := false }
def StepsSeekSaid : Prop := stepsSeekRow.holds Try.pinned (OpenSpec.ofChange stepsSeekSpec)

/-- ITS FALSE NEIGHBOUR: 'it returns false'. Refute it at one input. -/
def stepsSeekWrong : ChangeSpec := { name := "stepsSeek", fn := fun _ => fun
  | [d1, d2, d3] => { results := [.lit (.bool false)], args := [d1, d2, d3] }
  | _ => none }
def StepsSeekWrongFalsely : Prop := stepsSeekRow.holds Try.pinned (OpenSpec.ofChange stepsSeekWrong)

/-- 'cantuslaw12.StepsTimes': WHATEVER THE INPUT: true; the input reads as it did. -/
def stepsTimesSpec : ChangeSpec := { name := "stepsTimes", fn := fun _ => fun
  | [d1, d2, d3] => { results := [.lit (.bool true)], args := [d1, d2, d3] }
  | _ => none }
def stepsTimesRow : OpenClaim := { program := "ythmcicmebaibgaa", sum := "0ff65f4213d0acfa3e7e221b29d12659957d3857a65bbe7bebfef1f28e80ab3c", func := "cantus/cantuslaw12.StepsTimes", spec := "stepsTimes", unfollowed := true, recurses := true, loops := true, apart := false }
def StepsTimesSaid : Prop := stepsTimesRow.holds Try.pinned (OpenSpec.ofChange stepsTimesSpec)

/-- ITS FALSE NEIGHBOUR: 'it returns false'. Refute it at one input. -/
def stepsTimesWrong : ChangeSpec := { name := "stepsTimes", fn := fun _ => fun
  | [d1, d2, d3] => { results := [.lit (.bool false)], args := [d1, d2, d3] }
  | _ => none }
def StepsTimesWrongFalsely : Prop := stepsTimesRow.holds Try.pinned (OpenSpec.ofChange stepsTimesWrong)

/- THE SECOND FORM. 'bulk': how many values and letters a reading holds, each counted each time it is reached (what is shared counts as often as it is met; a slice's spare places count too). A statement '..UptoSaid' is the law's where the arguments, and the package variables that the reading takes, are together of bulk at most 1048576: NARROWER than '..Said'. Prove '..Said' where nothing that the law and all that it calls make is longer than what came in: it says more and counts as full. Else prove '..UptoSaid'. A law counts once. -/
mutual
def uptoBulk {H : Type} : DataW H → Nat
  | .lit (.string bytes) => bytes.length + 1
  | .lit _ => 1
  | .nil => 1
  | .ptr d => uptoBulk d + 1
  | .slice elems spare => uptoBulkAll elems + uptoBulkAll spare + 1
  | .agg parts => uptoBulkAll parts + 1
  | .iface _ d => uptoBulk d + 1
  | .map entries => uptoBulkEntries entries + 1
  | .held _ => 1
def uptoBulkAll {H : Type} : List (DataW H) → Nat
  | [] => 0
  | d :: r => uptoBulk d + uptoBulkAll r
def uptoBulkEntries {H : Type} : List (Lit × DataW H) → Nat
  | [] => 0
  | x :: r => uptoBulkEntry x + uptoBulkEntries r
def uptoBulkEntry {H : Type} : Lit × DataW H → Nat
  | (.string bytes, d) => bytes.length + uptoBulk d + 1
  | (_, d) => uptoBulk d + 1
 end
def uptoSmall : (H : Type) → List (DataW H) → Bool := fun _ ds => decide (uptoBulkAll ds ≤ 1048576)
def OpenSpec.upto (s : _root_.Go.ChangeSpec) : _root_.Go.OpenSpec := { _root_.Go.OpenSpec.ofChange s with cond := some uptoSmall }

/-- 'cantuslaw12.StepsPlay', WHERE WHAT IT READS IS OF BULK AT MOST 1048576: true; the input reads as it did. -/
def stepsPlayUptoRow : OpenClaim := { program := "ythmcicmebaibgaa", sum := "0ff65f4213d0acfa3e7e221b29d12659957d3857a65bbe7bebfef1f28e80ab3c", func := "cantus/cantuslaw12.StepsPlay", spec := "stepsPlay", unfollowed := true, recurses := true, loops := true, apart := false, narrowed := true }
def StepsPlayUptoSaid : Prop := stepsPlayUptoRow.holds Try.pinned (OpenSpec.upto stepsPlaySpec)

/-- 'cantuslaw12.StepsWindows', WHERE WHAT IT READS IS OF BULK AT MOST 1048576: true; the input reads as it did. -/
def stepsWindowsUptoRow : OpenClaim := { program := "ythmcicmebaibgaa", sum := "0ff65f4213d0acfa3e7e221b29d12659957d3857a65bbe7bebfef1f28e80ab3c", func := "cantus/cantuslaw12.StepsWindows", spec := "stepsWindows", unfollowed := true, recurses := true, loops := true, apart := false, narrowed := true }
def StepsWindowsUptoSaid : Prop := stepsWindowsUptoRow.holds Try.pinned (OpenSpec.upto stepsWindowsSpec)

/-- 'cantuslaw12.StepsSeek', WHERE WHAT IT READS IS OF BULK AT MOST 1048576: true; the input reads as it did. -/
def stepsSeekUptoRow : OpenClaim := { program := "ythmcicmebaibgaa", sum := "0ff65f4213d0acfa3e7e221b29d12659957d3857a65bbe7bebfef1f28e80ab3c", func := "cantus/cantuslaw12.StepsSeek", spec := "stepsSeek", unfollowed := true, recurses := true, loops := true, apart := false, narrowed := true }
def StepsSeekUptoSaid : Prop := stepsSeekUptoRow.holds Try.pinned (OpenSpec.upto stepsSeekSpec)

/-- 'cantuslaw12.StepsTimes', WHERE WHAT IT READS IS OF BULK AT MOST 1048576: true; the input reads as it did. -/
def stepsTimesUptoRow : OpenClaim := { program := "ythmcicmebaibgaa", sum := "0ff65f4213d0acfa3e7e221b29d12659957d3857a65bbe7bebfef1f28e80ab3c", func := "cantus/cantuslaw12.StepsTimes", spec := "stepsTimes", unfollowed := true, recurses := true, loops := true, apart := false, narrowed := true }
def StepsTimesUptoSaid : Prop := stepsTimesUptoRow.holds Try.pinned (OpenSpec.upto stepsTimesSpec)

end Rows
end Go.Proofs.Ythmcicmebaibgaa
