/- What the bound of a statement of the second form gives. -/
import Derived.Test.YthmcicmebaibgaaRows
import Derived.Test.YthmcicmebaibgaaOpn
namespace Go.Proofs.Ythmcicmebaibgaa.Bulk
open Go Go.Proofs.Ythmcicmebaibgaa.Opn

theorem pos {H : Type} (d : DataW H) : 1 ≤ Rows.uptoBulk d := by
  cases d with
  | lit l => cases l <;> simp [Rows.uptoBulk]
  | _ => simp [Rows.uptoBulk]

theorem count {H : Type} : ∀ l : List (DataW H), l.length ≤ Rows.uptoBulkAll l
  | [] => Nat.zero_le _
  | d :: r => by
    have h1 := pos d
    have h2 := count r
    simp only [Rows.uptoBulkAll, List.length_cons]
    omega

/-- A slice's elements, and their own bulk. -/
theorem els_le {H : Type} (d : DataW H) : Rows.uptoBulkAll (els d) ≤ Rows.uptoBulk d := by
  cases d with
  | slice e s => simp only [els, Rows.uptoBulk]; omega
  | _ => simp [els, Rows.uptoBulkAll]

theorem els_length {H : Type} (d : DataW H) : (els d).length ≤ Rows.uptoBulk d := Nat.le_trans (count _) (els_le d)

/-- All that lies two slices deep. -/
theorem els_sum {H : Type} : ∀ l : List (DataW H), (l.map fun d => (els d).length + 1).sum ≤ Rows.uptoBulkAll l + l.length
  | [] => Nat.zero_le _
  | d :: r => by
    have h1 := els_length d
    have h2 := els_sum r
    simp only [Rows.uptoBulkAll, List.map_cons, List.sum_cons, List.length_cons]
    omega

end Go.Proofs.Ythmcicmebaibgaa.Bulk
