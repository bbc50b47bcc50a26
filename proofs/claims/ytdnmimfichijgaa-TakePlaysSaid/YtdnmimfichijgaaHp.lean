/- Small laws on the heap's blocks: what a store, a new block, a draw do to a block that is known whole; what 'grownBy' hands on. Plain laws over any program. -/
import Derived.WalkKit
import Derived.Deep.Draws
namespace Go.Proofs.Ytdnmimfichijgaa.Hp
open Go Go.RowKit

theorem set_self {w : World} {b o : Nat} {c : Array Value} {e : TypeId} {z : Nat × Nat} (h : w.heap[b]? = some (.cells c e z)) (v : Value) :
    (w.setCell ⟨b, o, none⟩ v).heap[b]? = some (.cells (c.setIfInBounds o v) e z) := by
  simp only [World.setCell, Array.getElem?_modify, if_true, h, Option.map_some]
  simp

theorem set_other {w : World} {a : Addr} {b : Nat} (h : b ≠ a.block) (v : Value) : (w.setCell a v).heap[b]? = w.heap[b]? := Below.heap_setCell _ _ _ _ h

theorem drewN_heap (w : World) (n : Nat) : (w.drewN n).heap = w.heap := rfl

theorem cell_of {w : World} {b : Nat} {c : Array Value} {e : TypeId} {z : Nat × Nat} (h : w.heap[b]? = some (.cells c e z)) (o : Nat) : w.cell? ⟨b, o, none⟩ = c[o]? := by
  simp [World.cell?, h]

theorem free_of {w : World} {b : Nat} {c : Array Value} {e : TypeId} (h : w.heap[b]? = some (.cells c e (0, 0))) (o : Nat) : w.frozen? ⟨b, o, none⟩ = false := by
  simp [World.frozen?, h]

theorem lt_of {w : World} {b : Nat} {o : Obj} (h : w.heap[b]? = some o) : b < w.heap.size := (Array.getElem?_eq_some_iff.1 h).1

theorem size_set (w : World) (a : Addr) (v : Value) : (w.setCell a v).heap.size = w.heap.size := by simp [World.setCell]

theorem grown_refl (w : World) (r : Option Nat) : w.grownBy w r := ⟨rfl, rfl, rfl, Nat.le_refl _, fun _ _ _ => rfl⟩

theorem grown_trans {a b c : World} {r : Option Nat} (h : a.grownBy b r) (k : b.grownBy c r) : a.grownBy c r :=
  ⟨k.os.trans h.os, k.tape.trans h.tape, k.output.trans h.output, Nat.le_trans h.size k.size, fun i hi hr => (k.block i (Nat.lt_of_lt_of_le hi h.size) hr).trans (h.block i hi hr)⟩

theorem grown_none {a b : World} (h : a.grownBy b none) (r : Option Nat) : a.grownBy b r := ⟨h.os, h.tape, h.output, h.size, fun i hi _ => h.block i hi (by simp)⟩

theorem grown_drewN {a b : World} {r : Option Nat} (h : a.grownBy b r) (n : Nat) : a.grownBy (b.drewN n) r := ⟨h.os, h.tape, h.output, h.size, h.block⟩

theorem grown_drew {a b : World} {r : Option Nat} (h : a.grownBy b r) : a.grownBy b.drew r := ⟨h.os, h.tape, h.output, h.size, h.block⟩

/-- A store into the row that may be written, or into a block that is new. -/
theorem grown_set {a b : World} {r : Option Nat} (h : a.grownBy b r) {p : Addr} (hp : some p.block = r ∨ a.heap.size ≤ p.block) (v : Value) : a.grownBy (b.setCell p v) r :=
  ⟨h.os, h.tape, h.output, by rw [size_set]; exact h.size, fun i hi hr => by
    rw [set_other (fun e => by
      subst e
      rcases hp with hp | hp
      · exact hr hp
      · omega) v]
    exact h.block i hi hr⟩

theorem grown_alloc {a b : World} {r : Option Nat} (h : a.grownBy b r) (o : Obj) : a.grownBy (b.alloc o) r :=
  ⟨h.os, h.tape, h.output, by have := h.size; simp; omega, fun i hi hr => by
    rw [Below.heap_alloc _ _ _ (Nat.lt_of_lt_of_le hi h.size)]; exact h.block i hi hr⟩

/-- What may be written lies in a new block: then nothing that was there has turned. -/
theorem grown_new {a b : World} {k : Nat} (h : a.grownBy b (some k)) (hk : a.heap.size ≤ k) : a.grownBy b none :=
  ⟨h.os, h.tape, h.output, h.size, fun i hi _ => h.block i hi (by simp; omega)⟩

/-- From a later world's frame, seen from an earlier one. -/
theorem grown_from {a b c : World} {r : Option Nat} (h : a.grownBy b r) {k : Nat} (g : b.grownBy c (some k)) (hk : a.heap.size ≤ k ∨ r = some k) : a.grownBy c r :=
  ⟨g.os.trans h.os, g.tape.trans h.tape, g.output.trans h.output, Nat.le_trans h.size g.size, fun i hi hr => by
    rw [g.block i (Nat.lt_of_lt_of_le hi h.size) (by
      rcases hk with hk | hk
      · simp; omega
      · rw [← hk]; exact hr)]
    exact h.block i hi hr⟩

theorem grown_below {a b : World} (h : a.grownBy b none) : Below a.heap.size a b := ⟨h.os, h.tape, h.output, h.size, fun i hi => h.block i hi (by simp)⟩

theorem below_grown {a b : World} (h : Below a.heap.size a b) : a.grownBy b none := ⟨h.os, h.tape, h.output, h.size, fun i hi _ => h.block i hi⟩

theorem grown_cell {a b : World} {r : Option Nat} (h : a.grownBy b r) {p : Addr} {v : Value} (hc : a.cell? p = some v) (hr : some p.block ≠ r) : b.cell? p = some v := h.cell hc hr

theorem new_of_made {w w1 : World} {e : TypeId} {n : Nat} {v : Value} (h : w1.ownsRow w.heap.size e 1 (.slice (some ⟨w.heap.size, 0, none⟩) n n) n (List.replicate n v)) :
    w1.heap[w.heap.size]? = some (.cells (List.replicate n v).toArray e (0, 0)) := by
  obtain ⟨_, h | ⟨g, cap, cur, hv, _, hg, _, _, hs, ht⟩⟩ := h
  · simp at h
  · simp only [Value.slice.injEq, Option.some.injEq, Addr.mk.injEq, and_true] at hv
    obtain ⟨rfl, _, rfl⟩ := hv
    rw [hg]
    have : cur.toList = List.replicate n v := by
      rw [← ht, List.take_of_length_le (by simp [hs])]
    rw [← this]

theorem madeCells_one (v : Value) (n : Nat) : (madeCells #[v] n).toList = List.replicate n v := by
  apply List.ext_getElem
  · simp [madeCells]
  · intro i h1 h2
    simp [madeCells] at h1 ⊢
    rw [Nat.mod_one]; rfl

end Go.Proofs.Ytdnmimfichijgaa.Hp
