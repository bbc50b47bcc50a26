/- Turns that a law has written out; what was played, read. -/
import Derived.Test.YthmcicmebaibgaaTAlive
import Derived.Test.YthmcicmebaibgaaTSameQ
namespace Go.Proofs.Ythmcicmebaibgaa.TLit
open Go Go.RowKit Go.Proofs.Ythmcicmebaibgaa.WMod Go.Proofs.Ythmcicmebaibgaa.TMod Go.Proofs.Ythmcicmebaibgaa.TRead Go.Proofs.Ythmcicmebaibgaa.TNext Go.Proofs.Ythmcicmebaibgaa.TPlr Go.Proofs.Ythmcicmebaibgaa.TPm Go.Proofs.Ythmcicmebaibgaa.TPly Go.Proofs.Ythmcicmebaibgaa.Opn Go.Proofs.Ythmcicmebaibgaa.Hp Go.Proofs.Ythmcicmebaibgaa.Rd Go.Proofs.Ythmcicmebaibgaa.TWWrong
set_option linter.unusedVariables false

theorem turn1 (w : World) (x y : Int) : Tns (w.alloc (.cells #[.int .i64 x, .int .i64 y] 31)) (.slice (some ⟨w.heap.size, 0, none⟩) 1 1) [⟨x, y⟩] := by
  refine .inl ⟨w.heap.size, 0, 1, rfl, fun i t ht => ?_⟩
  match i, ht with
  | 0, ht =>
    simp at ht
    subst ht
    refine ⟨[.int .i64 x, .int .i64 y], rfl, fun j u hj => ?_, rfl⟩
    rw [cell_of (heap_alloc_new _ _)]
    simpa using hj
  | i + 1, ht => simp at ht

theorem turn2 (w : World) (x y x2 y2 : Int) : Tns (w.alloc (.cells #[.int .i64 x, .int .i64 y, .int .i64 x2, .int .i64 y2] 31)) (.slice (some ⟨w.heap.size, 0, none⟩) 2 2) [⟨x, y⟩, ⟨x2, y2⟩] := by
  refine .inl ⟨w.heap.size, 0, 2, rfl, fun i t ht => ?_⟩
  match i, ht with
  | 0, ht =>
    simp at ht
    subst ht
    refine ⟨[.int .i64 x, .int .i64 y], rfl, fun j u hj => ?_, rfl⟩
    rw [cell_of (heap_alloc_new _ _)]
    match j, hj with
    | 0, hj => simpa using hj
    | 1, hj => simpa using hj
    | j + 2, hj => simp at hj
  | 1, ht =>
    simp at ht
    subst ht
    refine ⟨[.int .i64 x2, .int .i64 y2], rfl, fun j u hj => ?_, rfl⟩
    rw [cell_of (heap_alloc_new _ _)]
    match j, hj with
    | 0, hj => simpa using hj
    | 1, hj => simpa using hj
    | j + 2, hj => simp at hj
  | i + 2, ht => simp at ht

theorem pls_at {w : World} {ao : Option Addr} {n cap : Nat} {ps : List Pl} (h : Pls w (.slice ao n cap) ps) {k : Nat} {p : Pl} (hk : ps[k]? = some p) :
    ∃ b off ve, ao = some ⟨b, off, none⟩ ∧ w.cell? ⟨b, off + k * 4, none⟩ = some (.int .i64 p.se) ∧ w.cell? ⟨b, off + k * 4 + 1, none⟩ = some (.int .i64 p.er) ∧ w.cell? ⟨b, off + k * 4 + 2, none⟩ = some ve ∧ w.cell? ⟨b, off + k * 4 + 3, none⟩ = some (.int .i64 p.at_) ∧ Evs w ve p.evs := by
  rcases h with ⟨b, off, cap', hh, hel⟩ | ⟨_, _, _, hnil⟩
  · simp only [Value.slice.injEq] at hh
    obtain ⟨cs, _, h2, ve, rfl, he⟩ := hel k p hk
    refine ⟨b, off, ve, hh.1, ?_, ?_, ?_, ?_, he⟩
    · have := h2 0 _ rfl; simpa using this
    · have := h2 1 _ rfl; rw [Nat.add_assoc]; exact this
    · have := h2 2 _ rfl; rw [Nat.add_assoc]; exact this
    · have := h2 3 _ rfl; rw [Nat.add_assoc]; exact this
  · subst hnil; simp at hk

/-- Not more than 4096 events in a turn. -/
theorem nextR_len (f : For) (a t : Int) : (nextR f a t).1.length ≤ 4096 := by
  unfold nextR
  split
  · exact Nat.zero_le _
  · split
    · exact Nat.zero_le _
    · simp only; omega

/-! ### seeking is playing from the start: plain -/
theorem seek_turn (f : For) {at_ ticks : Int} (h0 : 0 ≤ at_) (h1 : at_ ≤ 1125899906842624) : playR f 0 [⟨at_, ticks⟩] = [⟨0, (nextR f at_ ticks).2.2, (nextR f at_ ticks).1, (nextR f at_ ticks).2.1⟩] := by
  have e1 : seekA 0 ⟨at_, ticks⟩ = at_ := by unfold seekA; simp only; rw [if_neg (by omega), if_neg (by omega)]
  have e2 : seekE ⟨at_, ticks⟩ = 0 := by unfold seekE; simp only; rw [if_neg (by omega), if_neg (by omega)]
  simp only [playR, turnR, e1, e2]
theorem go_turn (f : For) (a t : Int) : turnR f a ⟨-1, t⟩ = ⟨0, (nextR f a t).2.2, (nextR f a t).1, (nextR f a t).2.1⟩ := by
  have e1 : seekA a ⟨-1, t⟩ = a := by unfold seekA; simp only; rw [if_pos (by omega)]
  have e2 : seekE ⟨-1, t⟩ = 0 := by unfold seekE; simp only; rw [if_pos (by omega)]
  simp only [turnR, e1, e2]

end Go.Proofs.Ythmcicmebaibgaa.TLit
