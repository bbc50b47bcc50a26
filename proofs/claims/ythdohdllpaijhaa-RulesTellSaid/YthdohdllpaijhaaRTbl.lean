/- The reference's table of ways, in memory. -/
import Derived.Test.YthdohdllpaijhaaREnd
import Derived.Test.YthdohdllpaijhaaRWayP
namespace Go.Proofs.Ythdohdllpaijhaa.RTbl
open Go Go.RowKit Go.Proofs.Ythdohdllpaijhaa.RMod Go.Proofs.Ythdohdllpaijhaa.RCnt Go.Proofs.Ythdohdllpaijhaa.RTab Go.Proofs.Ythdohdllpaijhaa.REnd Go.Proofs.Ythdohdllpaijhaa.RWayP Go.Proofs.Ythdohdllpaijhaa.Hp Go.Proofs.Ythdohdllpaijhaa.Rd
set_option linter.unusedVariables false
set_option linter.unusedSimpArgs false

theorem info24 : (Try.prog.info? 24).map (fun i => (i.zero, i.size, i.bytes)) = some (some (.slice none 0 0), 1, 24) := by kernel_rfl

def rowV (D k : Nat) : Value := .slice (some ⟨D + k, 0, none⟩) 2 2
def rowC (F : St → Nat) (k : Nat) : Obj := .cells #[.int .i64 (F ((k : Int), false) : Nat), .int .i64 (F ((k : Int), true) : Nat)] 3 (0, 0)

/-- Block B is a table of 128 rows of two numbers, which lie one behind the other from block D on. -/
def Tbl (w : World) (B D : Nat) (F : St → Nat) : Prop := Row w B 24 127 (rowV D) ∧ B < D ∧ ∀ k, k ≤ 127 → w.heap[D + k]? = some (rowC F k)

/-- The first k of them are made. -/
def TblK (w : World) (B D k : Nat) : Prop := Row w B 24 127 (fun j => if j < k then rowV D j else .slice none 0 0) ∧ B < D ∧ (∀ j, j < k → w.heap[D + j]? = some (rowC (fun _ => 0) j)) ∧ w.heap.size = D + k

theorem TblK.made {w w1 : World} {B : Nat} (hB : w.heap.size = B) (h : w1.ownsRow B 24 1 (.slice (some ⟨B, 0, none⟩) 128 128) 128 (madeCells (Value.slice none 0 0).cells (128 * 1)).toList) : TblK w1 B w1.heap.size 0 := by
  have hr := Row.made (w := w) (w1 := w1) (n := 127) (e := 24) (z := .slice none 0 0) rfl (by rw [hB]; exact h)
  rw [hB] at hr
  exact ⟨Row.imp hr (fun i hi => by rw [if_neg (by omega)]), hr.lt, fun j hj => absurd hj (by omega), rfl⟩

theorem TblK.next {w w1 : World} {B D k : Nat} (h : TblK w B D k) (hk : k ≤ 127) (hw : (w.setCell ⟨B, k, none⟩ (rowV D k)).alloc (.cells #[.int .i64 0, .int .i64 0] 3) = w1) : TblK w1 B D (k + 1) := by
  obtain ⟨h1, h0, h2, h3⟩ := h
  have hlt := h1.lt
  have hs : (w.setCell ⟨B, k, none⟩ (rowV D k)).heap.size = D + k := by rw [size_set]; exact h3
  have hr := h1.set (i := k) hk (rowV D k)
  subst hw
  refine ⟨Row.imp (hr.keep (heap_alloc_old _ _ (by rw [hs]; omega))) (fun i hi => ?_), h0, fun j hj => ?_, by simp; omega⟩
  · by_cases e : i = k
    · subst e; rw [if_pos rfl, if_pos (by omega)]
    · rw [if_neg e]
      by_cases e2 : i < k
      · rw [if_pos e2, if_pos (by omega)]
      · rw [if_neg e2, if_neg (by omega)]
  · by_cases e : j = k
    · subst e
      rw [← hs]
      exact heap_alloc_new _ _
    · rw [heap_alloc_old _ _ (by rw [hs]; omega), set_other (by simp; omega)]
      exact h2 j (by omega)

theorem TblK.done {w : World} {B D : Nat} (h : TblK w B D 128) : Tbl w B D (fun _ => 0) :=
  ⟨Row.imp h.1 (fun i hi => by rw [if_pos (by omega)]), h.2.1, fun k hk => h.2.2.1 k (by omega)⟩

section
variable {w w' : World} {B D : Nat} {F F' : St → Nat}

theorem Tbl.kept {row : Option Nat} (h : Tbl w B D F) (hg : w.grownBy w' row) (hr : ∀ j, row = some j → j ≠ B ∧ (j < D ∨ D + 128 ≤ j)) : Tbl w' B D F := by
  refine ⟨h.1.keep (hg.block B h.1.lt fun e => ?_), h.2.1, fun k hk => ?_⟩
  · exact (hr B e.symm).1 rfl
  · rw [hg.block _ (lt_of (h.2.2 k hk)) fun e => ?_]
    · exact h.2.2 k hk
    · have := hr _ e.symm; omega

theorem Tbl.lt (h : Tbl w B D F) : B < D ∧ D + 127 < w.heap.size := ⟨h.2.1, lt_of (h.2.2 127 (by omega))⟩

theorem Tbl.row (h : Tbl w B D F) {k : Nat} (hk : k ≤ 127) : w.cell? ⟨B, k, none⟩ = some (.slice (some ⟨D + k, 0, none⟩) 2 2) := (h.1.at hk).1
theorem Tbl.c0 (h : Tbl w B D F) {k : Nat} (hk : k ≤ 127) : w.cell? ⟨D + k, 0, none⟩ = some (.int .i64 (F ((k : Int), false) : Nat)) := cell_of (h.2.2 k hk) 0
theorem Tbl.c1 (h : Tbl w B D F) {k : Nat} (hk : k ≤ 127) : w.cell? ⟨D + k, 1, none⟩ = some (.int .i64 (F ((k : Int), true) : Nat)) := cell_of (h.2.2 k hk) 1
theorem Tbl.free (h : Tbl w B D F) {k : Nat} (hk : k ≤ 127) (o : Nat) : w.frozen? ⟨D + k, o, none⟩ = false := free_of (h.2.2 k hk) o

/-- A cell by its state. -/
theorem Tbl.ct (h : Tbl w B D F) {k t : Nat} (hk : k ≤ 127) (ht : t < 2) : w.cell? ⟨D + k, t, none⟩ = some (.int .i64 (F (st (2 * k + t)) : Nat)) := by
  have : t = 0 ∨ t = 1 := by omega
  rcases this with rfl | rfl
  · rw [show 2 * k + 0 = 2 * k from rfl, st_even]; exact h.c0 hk
  · rw [st_odd]; exact h.c1 hk

theorem Tbl.set (h : Tbl w B D F) {k t : Nat} (hk : k ≤ 127) (ht : t < 2) (v : Nat) : Tbl (w.setCell ⟨D + k, t, none⟩ (.int .i64 (v : Int))) B D (fun s => if s = st (2 * k + t) then v else F s) := by
  have hb := h.2.1
  refine ⟨h.1.keep (set_other (by simp; omega) _), hb, fun j hj => ?_⟩
  by_cases e : j = k
  · subst e
    rw [set_self (h.2.2 j hj)]
    have : t = 0 ∨ t = 1 := by omega
    rcases this with rfl | rfl
    · rw [show 2 * j + 0 = 2 * j from rfl, st_even]
      unfold rowC
      simp
    · rw [st_odd]
      unfold rowC
      simp
  · rw [set_other (by simp; omega), h.2.2 j hj]
    have hne : ∀ b : Bool, ((j : Int), b) ≠ st (2 * k + t) := fun b e2 => by
      unfold st at e2
      simp only [Prod.mk.injEq] at e2
      omega
    unfold rowC
    simp only [if_neg (hne _)]

theorem Tbl.imp (h : Tbl w B D F) (hf : ∀ (k : Nat) (b : Bool), k ≤ 127 → F ((k : Int), b) = F' ((k : Int), b)) : Tbl w B D F' :=
  ⟨h.1, h.2.1, fun k hk => by rw [h.2.2 k hk]; unfold rowC; rw [hf k false hk, hf k true hk]⟩
end
end Go.Proofs.Ythdohdllpaijhaa.RTbl
