/-
  No cell of these rows narrows 'for every input' (looked for: loops, veiled, ifaces, maps, wideKeys, modest, calm, conditions, laid).
  DERIVED. THE GIVEN ROWS OF THIS SEAT. 4 by the template 'for every input the law returns true; each argument reads behind the call as it read before'; 0 by the template 'total and deterministic' (their statements: YtdnmimfichijgaaTotals.lean).
  GIVEN WITH THE SEED: the statements are not yours to turn. If you find one false, say at which input.
  Laid BY PROGRAM, IN A SANDBOX (cutbox-rows.mjs): the forced cells as the released guide's own fill.sh prints them over the translation 2af2ea223fcbb18a… (all of the seat's roots in one cut). By AI agents, Wed Nov 11 2026. No macro, syntax, notation, axiom, sorry.
-/
import Derived.Test.YtdnmimfichijgaaChecked
import GoSem.Claim
import GoSem.ClaimJoined
import GoSem.ClaimMapViews
import Derived.JoinedTies
import Derived.KernelRfl
namespace Go.Proofs.Ytdnmimfichijgaa
/- THE CELL 'sum', in the pinned program and in every row, IS THE sha256 OF THE DUMP (.gsa) THAT YtdnmimfichijgaaProg.lean LOADS. Nothing in Lean hashes anything: it is a label: what it is worth is what the hold of that sum in a sandbox is worth. -/
noncomputable def Try.pinned : Pinned := { name := "ytdnmimfichijgaa", sum := "2af2ea223fcbb18aa1024120472103277b65331a1195992f319ba7a91ce2be74", checked := Try.checked }
namespace Rows
def none {H : Type} : Left H := { results := [], args := [] }

/-- 'cantuslaw20.TakePlays': WHATEVER THE INPUT: true; the input reads as it did. -/
def takePlaysSpec : ChangeSpec := { name := "takePlays", fn := fun _ => fun
  | [d1, d2] => { results := [.lit (.bool true)], args := [d1, d2] }
  | _ => none }
def takePlaysRow : OpenClaim := { program := "ytdnmimfichijgaa", sum := "2af2ea223fcbb18aa1024120472103277b65331a1195992f319ba7a91ce2be74", func := "cantus/cantuslaw20.TakePlays", spec := "takePlays", inPlace := ["slices.overlaps[cantus/api.Tone]"], unfollowed := true, recurses := true, apart := false }
def TakePlaysSaid : Prop := takePlaysRow.holds Try.pinned (OpenSpec.ofChange takePlaysSpec)

/-- ITS FALSE NEIGHBOUR: 'it returns false'. Refute it at one input. -/
def takePlaysWrong : ChangeSpec := { name := "takePlays", fn := fun _ => fun
  | [d1, d2] => { results := [.lit (.bool false)], args := [d1, d2] }
  | _ => none }
def TakePlaysWrongFalsely : Prop := takePlaysRow.holds Try.pinned (OpenSpec.ofChange takePlaysWrong)

/-- 'cantuslaw20.TakeUndoes': WHATEVER THE INPUT: true; the input reads as it did. -/
def takeUndoesSpec : ChangeSpec := { name := "takeUndoes", fn := fun _ => fun
  | [d1, d2] => { results := [.lit (.bool true)], args := [d1, d2] }
  | _ => none }
def takeUndoesRow : OpenClaim := { program := "ytdnmimfichijgaa", sum := "2af2ea223fcbb18aa1024120472103277b65331a1195992f319ba7a91ce2be74", func := "cantus/cantuslaw20.TakeUndoes", spec := "takeUndoes", inPlace := ["slices.overlaps[cantus/api.Tone]"], unfollowed := true, recurses := true, apart := false }
def TakeUndoesSaid : Prop := takeUndoesRow.holds Try.pinned (OpenSpec.ofChange takeUndoesSpec)

/-- ITS FALSE NEIGHBOUR: 'it returns false'. Refute it at one input. -/
def takeUndoesWrong : ChangeSpec := { name := "takeUndoes", fn := fun _ => fun
  | [d1, d2] => { results := [.lit (.bool false)], args := [d1, d2] }
  | _ => none }
def TakeUndoesWrongFalsely : Prop := takeUndoesRow.holds Try.pinned (OpenSpec.ofChange takeUndoesWrong)

/-- 'cantuslaw20.TakeKeeps': WHATEVER THE INPUT: true; the input reads as it did. -/
def takeKeepsSpec : ChangeSpec := { name := "takeKeeps", fn := fun _ => fun
  | [d1, d2] => { results := [.lit (.bool true)], args := [d1, d2] }
  | _ => none }
def takeKeepsRow : OpenClaim := { program := "ytdnmimfichijgaa", sum := "2af2ea223fcbb18aa1024120472103277b65331a1195992f319ba7a91ce2be74", func := "cantus/cantuslaw20.TakeKeeps", spec := "takeKeeps", inPlace := ["slices.overlaps[cantus/api.Tone]"], unfollowed := true, recurses := true, apart := false }
def TakeKeepsSaid : Prop := takeKeepsRow.holds Try.pinned (OpenSpec.ofChange takeKeepsSpec)

/-- ITS FALSE NEIGHBOUR: 'it returns false'. Refute it at one input. -/
def takeKeepsWrong : ChangeSpec := { name := "takeKeeps", fn := fun _ => fun
  | [d1, d2] => { results := [.lit (.bool false)], args := [d1, d2] }
  | _ => none }
def TakeKeepsWrongFalsely : Prop := takeKeepsRow.holds Try.pinned (OpenSpec.ofChange takeKeepsWrong)

/-- 'cantuslaw20.TakeOrders': WHATEVER THE INPUT: true; the input reads as it did. -/
def takeOrdersSpec : ChangeSpec := { name := "takeOrders", fn := fun _ => fun
  | [d] => { results := [.lit (.bool true)], args := [d] }
  | _ => none }
def takeOrdersRow : OpenClaim := { program := "ytdnmimfichijgaa", sum := "2af2ea223fcbb18aa1024120472103277b65331a1195992f319ba7a91ce2be74", func := "cantus/cantuslaw20.TakeOrders", spec := "takeOrders", inPlace := ["slices.overlaps[cantus/api.Tone]"], unfollowed := true, recurses := true, apart := false }
def TakeOrdersSaid : Prop := takeOrdersRow.holds Try.pinned (OpenSpec.ofChange takeOrdersSpec)

/-- ITS FALSE NEIGHBOUR: 'it returns false'. Refute it at one input. -/
def takeOrdersWrong : ChangeSpec := { name := "takeOrders", fn := fun _ => fun
  | [d] => { results := [.lit (.bool false)], args := [d] }
  | _ => none }
def TakeOrdersWrongFalsely : Prop := takeOrdersRow.holds Try.pinned (OpenSpec.ofChange takeOrdersWrong)

/- THE SECOND FORM. 'bulk': how many values and letters a reading holds, each counted each time it is reached (what is shared counts as often as it is met; a slice's spare places count too). A statement '..UptoSaid' is the law's where the arguments, and the package variables that the reading takes, are together of bulk at most 1048576: NARROWER than '..Said'. Prove '..Said' where nothing that the law and all that it calls make is longer than what came in: it says more and counts as full. Else prove '..UptoSaid'. A law counts once. -/
mutual
def uptoBulk {H : Type} : DataW H → Nat
  | .lit (.string bytes) => bytes.length + 1
  | .lit _ => 1
  | .nil => 1
  | .ptr d => uptoBulk d + 1
  | .slice elems spare => uptoBulkAll elems + uptoBulkAll spare + 1
  | .agg parts => uptoBulkAll parts + 1
  | .iface _ d => uptoBulk d + 1
  | .map entries => uptoBulkEntries entries + 1
  | .held _ => 1
def uptoBulkAll {H : Type} : List (DataW H) → Nat
  | [] => 0
  | d :: r => uptoBulk d + uptoBulkAll r
def uptoBulkEntries {H : Type} : List (Lit × DataW H) → Nat
  | [] => 0
  | x :: r => uptoBulkEntry x + uptoBulkEntries r
def uptoBulkEntry {H : Type} : Lit × DataW H → Nat
  | (.string bytes, d) => bytes.length + uptoBulk d + 1
  | (_, d) => uptoBulk d + 1
 end
def uptoSmall : (H : Type) → List (DataW H) → Bool := fun _ ds => decide (uptoBulkAll ds ≤ 1048576)
def OpenSpec.upto (s : _root_.Go.ChangeSpec) : _root_.Go.OpenSpec := { _root_.Go.OpenSpec.ofChange s with cond := some uptoSmall }

/-- 'cantuslaw20.TakePlays', WHERE WHAT IT READS IS OF BULK AT MOST 1048576: true; the input reads as it did. -/
def takePlaysUptoRow : OpenClaim := { program := "ytdnmimfichijgaa", sum := "2af2ea223fcbb18aa1024120472103277b65331a1195992f319ba7a91ce2be74", func := "cantus/cantuslaw20.TakePlays", spec := "takePlays", inPlace := ["slices.overlaps[cantus/api.Tone]"], unfollowed := true, recurses := true, apart := false, narrowed := true }
def TakePlaysUptoSaid : Prop := takePlaysUptoRow.holds Try.pinned (OpenSpec.upto takePlaysSpec)

/-- 'cantuslaw20.TakeUndoes', WHERE WHAT IT READS IS OF BULK AT MOST 1048576: true; the input reads as it did. -/
def takeUndoesUptoRow : OpenClaim := { program := "ytdnmimfichijgaa", sum := "2af2ea223fcbb18aa1024120472103277b65331a1195992f319ba7a91ce2be74", func := "cantus/cantuslaw20.TakeUndoes", spec := "takeUndoes", inPlace := ["slices.overlaps[cantus/api.Tone]"], unfollowed := true, recurses := true, apart := false, narrowed := true }
def TakeUndoesUptoSaid : Prop := takeUndoesUptoRow.holds Try.pinned (OpenSpec.upto takeUndoesSpec)

/-- 'cantuslaw20.TakeKeeps', WHERE WHAT IT READS IS OF BULK AT MOST 1048576: true; the input reads as it did. -/
def takeKeepsUptoRow : OpenClaim := { program := "ytdnmimfichijgaa", sum := "2af2ea223fcbb18aa1024120472103277b65331a1195992f319ba7a91ce2be74", func := "cantus/cantuslaw20.TakeKeeps", spec := "takeKeeps", inPlace := ["slices.overlaps[cantus/api.Tone]"], unfollowed := true, recurses := true, apart := false, narrowed := true }
def TakeKeepsUptoSaid : Prop := takeKeepsUptoRow.holds Try.pinned (OpenSpec.upto takeKeepsSpec)

/-- 'cantuslaw20.TakeOrders', WHERE WHAT IT READS IS OF BULK AT MOST 1048576: true; the input reads as it did. -/
def takeOrdersUptoRow : OpenClaim := { program := "ytdnmimfichijgaa", sum := "2af2ea223fcbb18aa1024120472103277b65331a1195992f319ba7a91ce2be74", func := "cantus/cantuslaw20.TakeOrders", spec := "takeOrders", inPlace := ["slices.overlaps[cantus/api.Tone]"], unfollowed := true, recurses := true, apart := false, narrowed := true }
def TakeOrdersUptoSaid : Prop := takeOrdersUptoRow.holds Try.pinned (OpenSpec.upto takeOrdersSpec)

end Rows
end Go.Proofs.Ytdnmimfichijgaa
