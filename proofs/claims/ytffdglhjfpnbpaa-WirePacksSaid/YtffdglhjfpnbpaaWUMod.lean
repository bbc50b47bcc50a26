/- Bytes into events: what is computed, in plain Lean. -/
import Derived.Test.YtffdglhjfpnbpaaWMod
namespace Go.Proofs.Ytffdglhjfpnbpaa.WUMod
open Go Go.Proofs.Ytffdglhjfpnbpaa.WMod

/-- How long it is to the next event, read from a place on: where one stands then, and the number, if there is one. -/
def waitP (b : List Nat) : Nat → Nat → Nat → Nat × Option Nat
  | 0, _, p => (p, none)
  | f + 1, n, p =>
    match b[p]? with
    | none => (p, none)
    | some c => if (f = 3 ∧ c = 128) ∨ (f = 0 ∧ 127 < c) then (p, none) else if c < 128 then (p + 1, some (n * 128 + c % 128)) else waitP b f (n * 128 + c % 128) (p + 1)

/-- A byte below 128. -/
def lowP (b : List Nat) (p : Nat) : Nat × Option Nat :=
  match b[p]? with
  | none => (p, none)
  | some c => if 127 < c then (p, none) else (p + 1, some c)

/-- The status that holds from a place on; none: it may not stand there. -/
def statP (b : List Nat) (st p : Nat) : Nat × Option Nat :=
  match b[p]? with
  | none => (p, some st)
  | some c => if 127 < c then (if dataN ((c / 16 : Nat) : Int) = 0 ∨ c = st then (p, none) else (p + 1, some c)) else (p, some st)

/-- An event but for its time: where one stands then, the status, the numbers. -/
def eventP (b : List Nat) (st p : Nat) : Nat × Nat × Option (Nat × Nat) :=
  match statP b st p with
  | (q, none) => (q, st, none)
  | (q, some s) =>
    if dataN ((s / 16 : Nat) : Int) = 0 then (q, s, none)
    else match lowP b q with
      | (q1, none) => (q1, s, none)
      | (q1, some x) => if dataN ((s / 16 : Nat) : Int) = 2 then (match lowP b q1 with
          | (q2, none) => (q2, s, none)
          | (q2, some y) => (q2, s, some (x, y))) else (q1, s, some (x, 0))

def evOf (last n s x y : Nat) : Ev := ⟨((last + n : Nat) : Int), ((s / 16 : Nat) : Int), ((s % 16 : Nat) : Int), (x : Int), (y : Int)⟩

/-- What is unpacked from a place on: the events; or what is wrong, and where. -/
def unpackP (b : List Nat) : Nat → Nat → Nat → Nat → List Ev → Except (Int × Nat) (List Ev)
  | 0, _, _, _, acc => .ok acc
  | f + 1, p, last, st, acc =>
    if b.length ≤ p then .ok acc
    else if acc.length = 4096 then .error (5, p)
    else match waitP b 4 0 p with
      | (q, none) => .error (2, q)
      | (q, some n) => match eventP b st q with
        | (q2, _, none) => .error (2, q2)
        | (q2, s, some (x, y)) => unpackP b f q2 (last + n) s (acc ++ [evOf last n s x y])

theorem waitP_le (b : List Nat) : ∀ (f n p q m : Nat), waitP b f n p = (q, some m) → p < q ∧ q ≤ b.length := by
  intro f
  induction f with
  | zero => intro n p q m h; simp [waitP] at h
  | succ f ih =>
    intro n p q m h
    unfold waitP at h
    split at h
    · simp at h
    · rename_i c hc
      have hp : p < b.length := (List.getElem?_eq_some_iff.1 hc).1
      split at h
      · simp at h
      · split at h
        · simp at h; omega
        · have := ih _ _ _ _ h; omega

theorem lowP_le {b : List Nat} {p q x : Nat} (h : lowP b p = (q, some x)) : p < q ∧ q ≤ b.length ∧ q = p + 1 ∧ b[p]? = some x ∧ x < 128 := by
  unfold lowP at h
  split at h
  · simp at h
  · rename_i c hc
    have hp : p < b.length := (List.getElem?_eq_some_iff.1 hc).1
    split at h
    · simp at h
    · simp at h
      obtain ⟨rfl, rfl⟩ := h
      exact ⟨by omega, by omega, rfl, hc, by omega⟩

theorem statP_le {b : List Nat} {st p q s : Nat} (h : statP b st p = (q, some s)) : p ≤ q ∧ (q ≤ b.length ∨ q = p) := by
  unfold statP at h
  split at h
  · simp at h; omega
  · rename_i c hc
    have hp : p < b.length := (List.getElem?_eq_some_iff.1 hc).1
    split at h
    · split at h
      · simp at h
      · simp at h; omega
    · simp at h; omega

theorem eventP_le {b : List Nat} {st p q s x y : Nat} (h : eventP b st p = (q, s, some (x, y))) : p < q ∧ q ≤ b.length := by
  unfold eventP at h
  split at h
  · simp at h
  · rename_i q0 s0 h0
    have k0 := statP_le h0
    split at h
    · simp at h
    · split at h
      · simp at h
      · rename_i q1 x1 h1
        have k1 := lowP_le h1
        split at h
        · split at h
          · simp at h
          · rename_i q2 y2 h2
            have k2 := lowP_le h2
            simp at h
            omega
        · simp at h
          omega

/-- Enough is enough. -/
theorem unpackP_fuel (b : List Nat) : ∀ (f f' p last st : Nat) (acc : List Ev), b.length - p < f → b.length - p < f' → unpackP b f p last st acc = unpackP b f' p last st acc := by
  intro f
  induction f with
  | zero => intro f' p last st acc h; omega
  | succ f ih =>
    intro f' p last st acc h h'
    cases f' with
    | zero => omega
    | succ f' =>
      unfold unpackP
      split
      · rfl
      · split
        · rfl
        · split
          · rfl
          · rename_i q n hw
            have k1 := waitP_le _ _ _ _ _ _ hw
            split
            · rfl
            · rename_i q2 s x y he
              have k2 := eventP_le he
              exact ih _ _ _ _ _ (by omega) (by omega)

def unpack (b : List Nat) : Except (Int × Nat) (List Ev) := unpackP b (b.length + 1) 0 0 0 []

end Go.Proofs.Ytffdglhjfpnbpaa.WUMod
