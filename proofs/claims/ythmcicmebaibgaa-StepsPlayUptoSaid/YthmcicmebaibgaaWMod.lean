/- Events in bytes: what is computed, in plain Lean. -/
import GoSem.Core.Value
namespace Go.Proofs.Ythmcicmebaibgaa.WMod
open Go

structure Ev where
  at_ : Int
  kind : Int
  ch : Int
  a : Int
  b : Int

def Ev.cells (e : Ev) : List Value := [.int .i64 e.at_, .int .i64 e.kind, .int .i64 e.ch, .int .i64 e.a, .int .i64 e.b]

def dataN (k : Int) : Int := if k = 8 ∨ k = 9 ∨ k = 11 ∨ k = 14 then 2 else if k = 12 then 1 else 0

def sevenB (n : Int) : Bool := decide (0 ≤ n) && decide (n < 128)

def badE (e : Ev) : Prop := e.ch < 0 ∨ 15 < e.ch ∨ sevenB e.a = false ∨ sevenB e.b = false ∨ (dataN e.kind = 1 ∧ e.b ≠ 0)
instance (e : Ev) : Decidable (badE e) := by unfold badE; exact inferInstance

def wrongE (last : Int) (e : Ev) : Int := if dataN e.kind = 0 then 1 else if badE e then 3 else if e.at_ < last then 8 else if 268435456 ≤ e.at_ - last then 4 else 0

def wrongL : Int → List Ev → Int
  | _, [] => 0
  | last, e :: r => if wrongE last e = 0 then wrongL e.at_ r else wrongE last e

def wrong (l : List Ev) : Int := if 4096 < l.length then 5 else wrongL 0 l

theorem wrongL_step {last : Int} {l : List Ev} {k : Nat} {e : Ev} (hk : l[k]? = some e) {x : Int} (h : x = wrongL last (l.drop k)) : (wrongE last e = 0 → x = wrongL e.at_ (l.drop (k + 1))) ∧ (wrongE last e ≠ 0 → x = wrongE last e) := by
  obtain ⟨hlt, he⟩ := List.getElem?_eq_some_iff.1 hk
  rw [List.drop_eq_getElem_cons hlt, he] at h
  unfold wrongL at h
  constructor
  · intro h0; rw [if_pos h0] at h; exact h
  · intro h0; rw [if_neg h0] at h; exact h

/-- A time in bytes, seven bits in each, the highest first. -/
def waitB (n : Nat) : List Nat :=
  (if 0 < n / 2097152 then [n / 2097152 % 128 + 128] else []) ++ ((if 0 < n / 16384 then [n / 16384 % 128 + 128] else []) ++ ((if 0 < n / 128 then [n / 128 % 128 + 128] else []) ++ [n % 128]))

def stE (e : Ev) : Int := e.kind * 16 + e.ch

def packE (last st : Int) (e : Ev) : List Nat :=
  waitB (e.at_ - last).toNat ++ ((if stE e = st then [] else [(stE e).toNat]) ++ (e.a.toNat :: if dataN e.kind = 2 then [e.b.toNat] else []))

def packL : Int → Int → List Ev → List Nat
  | _, _, [] => []
  | last, st, e :: r => packE last st e ++ packL e.at_ (stE e) r

theorem packL_step {last st : Int} {l : List Ev} {k : Nat} {e : Ev} (hk : l[k]? = some e) {x acc : List Nat} (h : x = acc ++ packL last st (l.drop k)) : x = (acc ++ packE last st e) ++ packL e.at_ (stE e) (l.drop (k + 1)) := by
  obtain ⟨hlt, he⟩ := List.getElem?_eq_some_iff.1 hk
  rw [List.drop_eq_getElem_cons hlt, he] at h
  unfold packL at h
  rw [List.append_assoc]
  exact h

theorem waitB_len (n : Nat) : (waitB n).length ≤ 4 := by
  unfold waitB
  simp only [List.length_append]
  have h : ∀ (c : Prop) [Decidable c] (x : Nat), (if c then [x] else []).length ≤ 1 := fun c _ x => by split <;> simp
  have h1 := h (0 < n / 2097152) (n / 2097152 % 128 + 128)
  have h2 := h (0 < n / 16384) (n / 16384 % 128 + 128)
  have h3 := h (0 < n / 128) (n / 128 % 128 + 128)
  have h4 : [n % 128].length = 1 := rfl
  omega

theorem packE_len (last st : Int) (e : Ev) : (packE last st e).length ≤ 7 := by
  unfold packE
  have h1 := waitB_len (e.at_ - last).toNat
  simp only [List.length_append, List.length_cons]
  have h2 : (if stE e = st then [] else [(stE e).toNat]).length ≤ 1 := by split <;> simp
  have h3 : (if dataN e.kind = 2 then [e.b.toNat] else []).length ≤ 1 := by split <;> simp
  omega

theorem packL_len (last st : Int) (l : List Ev) : (packL last st l).length ≤ 7 * l.length := by
  induction l generalizing last st with
  | nil => simp [packL]
  | cons e r ih =>
    have h1 := packE_len last st e
    have h2 := ih e.at_ (stE e)
    simp only [packL, List.length_append, List.length_cons]
    omega

/-- A beginning's bytes are a beginning. -/
theorem packL_take (last st : Int) (l : List Ev) (n : Nat) : ∃ r, packL last st l = packL last st (l.take n) ++ r := by
  induction l generalizing last st n with
  | nil => exact ⟨[], by simp [packL]⟩
  | cons e l ih =>
    cases n with
    | zero => exact ⟨packL last st (e :: l), by simp [packL]⟩
    | succ n =>
      obtain ⟨r, hr⟩ := ih e.at_ (stE e) n
      exact ⟨r, by simp only [packL, List.take_succ_cons]; rw [hr, List.append_assoc]⟩

theorem wrongL_take (last : Int) (l : List Ev) (n : Nat) (h : wrongL last l = 0) : wrongL last (l.take n) = 0 := by
  induction l generalizing last n with
  | nil => simpa using h
  | cons e l ih =>
    unfold wrongL at h
    split at h
    · rename_i he
      cases n with
      | zero => simp [wrongL]
      | succ n => simp only [List.take_succ_cons, wrongL]; rw [if_pos he]; exact ih _ _ h
    · rename_i he; exact absurd h he

theorem wrong_take {l : List Ev} (n : Nat) (h : wrong l = 0) : wrong (l.take n) = 0 := by
  unfold wrong at *
  split at h
  · cases h
  · rename_i hl
    rw [if_neg (by rw [List.length_take]; omega)]
    exact wrongL_take _ _ _ h

end Go.Proofs.Ythmcicmebaibgaa.WMod
