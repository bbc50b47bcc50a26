/- A voice against another one: what is computed, in plain Lean. -/
import GoSem.Core.Value
namespace Go.Proofs.Ythdohdllpaijhaa.RMod
open Go

structure Ru where
  low : Int
  high : Int
  above : Bool
  leap : Int
  classes : Int

def Ru.cells (r : Ru) : List Value := [.int .i64 r.low, .int .i64 r.high, .bool r.above, .int .i64 r.leap, .int .i64 r.classes]

def apartZ (a b : Int) : Int := max (a - b) (b - a)
def goodB (a b : Int) : Bool := let d := apartZ a b % 12; decide (d = 0 ∨ d = 3 ∨ d = 4 ∨ d = 7 ∨ d = 8 ∨ d = 9)
def perfB (a b : Int) : Bool := let d := apartZ a b % 12; decide (d = 0 ∨ d = 7)
def mayB (classes key : Int) : Bool := decide (classes / 2 ^ (key % 12).toNat % 2 = 1)

theorem apart_le {a b : Int} (ha : 0 ≤ a ∧ a ≤ 127) (hb : 0 ≤ b ∧ b ≤ 127) : 0 ≤ apartZ a b ∧ apartZ a b ≤ 127 := by unfold apartZ; omega

/-- The key of the line that is given at a place. -/
def at_ (g : List Int) (i : Nat) : Int := g.getD i 0

def okR (r : Ru) : Prop := 0 ≤ r.low ∧ r.high ≤ 127 ∧ r.low ≤ r.high ∧ 0 ≤ r.leap ∧ 0 ≤ r.classes ∧ r.classes < 4096
instance (r : Ru) : Decidable (okR r) := by unfold okR; exact inferInstance
def keyB (k : Int) : Bool := decide (0 ≤ k) && decide (k ≤ 127)

def wrongR (r : Ru) (g : List Int) : Int :=
  if g.length = 0 ∨ 64 < g.length then 5 else if g.all keyB = false then 3 else if okR r then 0 else 3

structure OkG (r : Ru) (g : List Int) : Prop where
  len : 1 ≤ g.length ∧ g.length ≤ 64
  keys : ∀ k ∈ g, 0 ≤ k ∧ k ≤ 127
  rules : okR r

theorem okG_of {r : Ru} {g : List Int} (h : wrongR r g = 0) : OkG r g := by
  unfold wrongR at h
  split at h
  · cases h
  · split at h
    · cases h
    · split at h
      · rename_i h1 h2 h3
        refine ⟨by omega, fun k hk => ?_, h3⟩
        simp only [Bool.not_eq_false, List.all_eq_true] at h2
        have := h2 k hk
        unfold keyB at this
        simpa using this
      · cases h

theorem at_mem {r : Ru} {g : List Int} (h : OkG r g) (i : Nat) : 0 ≤ at_ g i ∧ at_ g i ≤ 127 := by
  unfold at_
  rw [List.getD_eq_getElem?_getD]
  cases hi : g[i]? with
  | none => simp
  | some k => exact h.keys k (List.mem_of_getElem? hi)

/-- What a key breaks at a place, whatever is ahead of it. -/
def aloneZ (r : Ru) (g : List Int) (i : Nat) (key : Int) : Int :=
  if key < r.low ∨ r.high < key ∨ mayB r.classes key = false then 1
  else if r.above = true ∧ key < at_ g i then 2
  else if goodB key (at_ g i) = false then 3
  else if i = 0 ∧ perfB key (at_ g i) = false ∨ i + 1 = g.length ∧ apartZ key (at_ g i) % 12 ≠ 0 then 4
  else 0

/-- What a key breaks behind the one ahead of it; same: whether that was the same as the one ahead of that. -/
def behindZ (r : Ru) (g : List Int) (i : Nat) (key last : Int) (same : Bool) : Int :=
  if r.leap < apartZ key last ∨ apartZ key last = 6 then 5
  else if 0 < apartZ key last ∧ perfB key (at_ g i) = true ∧ apartZ key (at_ g i) % 12 = apartZ last (at_ g (i - 1)) % 12 then 6
  else if apartZ key last = 0 ∧ same = true then 7
  else 0

end Go.Proofs.Ythdohdllpaijhaa.RMod
