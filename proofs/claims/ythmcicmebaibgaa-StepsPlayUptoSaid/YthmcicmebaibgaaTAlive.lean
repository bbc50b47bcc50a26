/- alive; what two sections are long. -/
import Derived.Test.YthmcicmebaibgaaTPly
namespace Go.Proofs.Ythmcicmebaibgaa.TAlive
open Go Go.RowKit Go.Proofs.Ythmcicmebaibgaa.WMod Go.Proofs.Ythmcicmebaibgaa.TMod Go.Proofs.Ythmcicmebaibgaa.TRead Go.Proofs.Ythmcicmebaibgaa.TPlr Go.Proofs.Ythmcicmebaibgaa.TPm Go.Proofs.Ythmcicmebaibgaa.TPly Go.Proofs.Ythmcicmebaibgaa.Opn Go.Proofs.Ythmcicmebaibgaa.Hp Go.Proofs.Ythmcicmebaibgaa.Rd Go.Proofs.Ythmcicmebaibgaa.TWWrong
set_option linter.unusedVariables false
set_option linter.unusedSimpArgs false

def aliveF : For := .cons 2 3 [] .nil .nil

theorem alive_long : longV aliveF = 6 ∧ longE aliveF = 0 := by
  constructor <;> rfl

set_option maxHeartbeats 1000000 in
set_option maxRecDepth 100000 in
theorem alive_calls (w : World) : Calls Try.prog 12 #[] w fun e w' => e = .returned (.bool true) ∧ Hid (w.grownBy w' none) := by
  have hr : (w.alloc (.cells #[.int .i64 2, .int .i64 3, .slice none 0 0, .slice none 0 0] 44)).heap[w.heap.size]? = some (.cells #[.int .i64 2, .int .i64 3, .slice none 0 0, .slice none 0 0] 44 (0, 0)) := heap_alloc_new _ _
  have hs : Secs (w.alloc (.cells #[.int .i64 2, .int .i64 3, .slice none 0 0, .slice none 0 0] 44)) (.slice (some ⟨w.heap.size, 0, none⟩) 1 1) aliveF := by
    refine .inr ⟨_, _, 1, rfl, ⟨.slice none 0 0, .slice none 0 0, cell_of hr 0, cell_of hr 1, cell_of hr 2, cell_of hr 3, .inr ⟨none, 0, rfl, rfl⟩, .inl ⟨rfl, none, 0, rfl⟩⟩, trivial⟩
  have LC := Lib.hid (Long_calls aliveF _ _ hs)
  rw [alive_long.1, alive_long.2] at LC
  have HG : Hid (w.grownBy (w.alloc (.cells #[.int .i64 2, .int .i64 3, .slice none 0 0, .slice none 0 0] 44)) none) := grown_alloc (grown_refl _ _) _
  clear hr hs
  go_enter Try.func12, Try.ntmps12
  go_wp2_with (go_at_call 7; refine (LC.out).mono ?_; rintro e1 w1 ⟨rfl, hg1⟩)
  go_ret
  exact ⟨rfl, grown_trans HG.out hg1.out⟩
end Go.Proofs.Ythmcicmebaibgaa.TAlive
