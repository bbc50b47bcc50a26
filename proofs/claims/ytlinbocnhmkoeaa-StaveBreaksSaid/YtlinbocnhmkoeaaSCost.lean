/- Wrong, a line's cost, which of two ways is better: the program's and the reference's. -/
import Derived.Test.YtlinbocnhmkoeaaSBest
import Derived.Test.YtlinbocnhmkoeaaOpn
import Derived.Test.YtlinbocnhmkoeaaMixed
import Derived.Test.YtlinbocnhmkoeaaProg
import Derived.WalkKit
import Derived.WalkLawsBesides
import Derived.BigQuiet
import Derived.Outline
import Derived.Deep.MidRow
import Derived.Deep.Cut
import Derived.Deep.CutRange
import Derived.Lib.Hide
namespace Go.Proofs.Ytlinbocnhmkoeaa.SCost
open Go Go.RowKit Go.Proofs.Ytlinbocnhmkoeaa.SMod Go.Proofs.Ytlinbocnhmkoeaa.SBest Go.Proofs.Ytlinbocnhmkoeaa.Opn Go.Proofs.Ytlinbocnhmkoeaa.Hp Go.Proofs.Ytlinbocnhmkoeaa.Rd
set_option linter.unusedVariables false

def bxCells (b : Bx) : List Value := [.int .i64 b.wide, .int .i64 b.give]
/-- A slice of boxes. -/
def Bxs : World → Value → List Bx → Prop := Slc 2 fun _ cs b => cs = bxCells b

def costV (o : Option Int) : Value := .tuple #[.int .i64 (o.getD 0), .bool o.isSome]

set_option maxHeartbeats 400000 in
theorem cost_calls (n m W : Int) (last : Bool) (w : World) (hn : 0 ≤ n ∧ n ≤ 10240000) (hW : 1 ≤ W ∧ W ≤ 10000) (hm : 0 ≤ m ∧ m ≤ 10240000) :
    Calls Try.prog 15 #[.agg #[.int .i64 n, .int .i64 m], .int .i64 W, .bool last] w fun e w' => e = .returned (costV (lineC W n m last)) ∧ Hid (w.grownBy w' none) := by
  obtain ⟨n0, n1⟩ := hn
  obtain ⟨W0, W1⟩ := hW
  obtain ⟨m0, m1⟩ := hm
  have HG : Hid (w.grownBy (w.alloc (.cells #[.int .i64 n, .int .i64 m] 39)) none) := grown_alloc (grown_refl _ _) _
  unfold lineC
  by_cases h1 : W < m
  · rw [if_pos h1]
    go_enter Try.func15, Try.ntmps15
    go_wp2_with fail
    go_ret2
    exact ⟨rfl, HG⟩
  rw [if_neg h1]
  by_cases h2 : W < n
  · rw [if_pos h2]
    obtain ⟨d, hd⟩ : ∃ d, n - W = d := ⟨_, rfl⟩
    have d0 : 0 < d := by omega
    have d1 : d ≤ 10240000 := by omega
    have hq := sq_le (d := d) (K := 10240000) (by omega) d1
    obtain ⟨q, hqq⟩ : ∃ q, 4 * d * d = q := ⟨_, rfl⟩
    have q0 : 0 ≤ q ∧ q ≤ 419430400000000 := by rw [← hqq, Int.mul_assoc]; omega
    obtain ⟨q0, q1⟩ := q0
    rw [hd, hqq]
    clear hq
    go_enter Try.func15, Try.ntmps15
    go_wp2_with fail
    go_ret2
    exact ⟨rfl, HG⟩
  rw [if_neg h2]
  obtain ⟨d, hd⟩ : ∃ d, n - W = d := ⟨_, rfl⟩
  have d0 : ¬ 0 < d := by omega
  have d1 : -10000 ≤ d := by omega
  cases last with
  | true =>
    rw [if_pos rfl]
    go_enter Try.func15, Try.ntmps15
    go_wp2_with fail
    go_ret2
    exact ⟨rfl, HG⟩
  | false =>
    rw [if_neg (by simp), hd]
    have hq := sq_le (d := -d) (K := 10000) (by omega) (by omega)
    rw [Int.neg_mul_neg] at hq
    obtain ⟨q, hqq⟩ : ∃ q, d * d = q := ⟨_, rfl⟩
    rw [hqq] at hq ⊢
    obtain ⟨q0, q1⟩ := hq
    go_enter Try.func15, Try.ntmps15
    go_wp2_with fail
    go_ret2
    exact ⟨rfl, HG⟩

def wyV (a : Wy) : Value := .agg #[.int .i64 a.cost, .int .i64 a.lines, .int .i64 a.stop]

set_option maxHeartbeats 800000 in
theorem better_calls (a b : Wy) (w : World) : Calls Try.prog 16 #[wyV a, wyV b] w fun e w' => e = .returned (.bool (betterW a b)) ∧ Hid (w.grownBy w' none) := by
  obtain ⟨ac, al, at_⟩ := a
  obtain ⟨bc, bl, bs⟩ := b
  have HG : Hid (w.grownBy ((w.alloc (.cells #[.int .i64 ac, .int .i64 al, .int .i64 at_] 43)).alloc (.cells #[.int .i64 bc, .int .i64 bl, .int .i64 bs] 43)) none) := grown_alloc (grown_alloc (grown_refl _ _) _) _
  rw [betterW_num]
  show Calls Try.prog 16 #[.agg #[.int .i64 ac, .int .i64 al, .int .i64 at_], .agg #[.int .i64 bc, .int .i64 bl, .int .i64 bs]] w _
  by_cases h1 : bs = 0
  · subst h1
    simp only [true_or, if_true, decide_true, Bool.true_or]
    go_enter Try.func16, Try.ntmps16
    go_wp2_with fail
    go_ret
    exact ⟨rfl, HG⟩
  have h1' : (bs == 0) = false := by simpa using h1
  by_cases h2 : ac = bc
  · subst h2
    rw [if_neg (by simp [h1])]
    have h2' : (ac != ac) = false := by simp
    by_cases h3 : al = bl
    · subst h3
      rw [if_neg (by simp)]
      go_enter Try.func16, Try.ntmps16
      go_wp2_with fail
      go_ret
      exact ⟨rfl, HG⟩
    · rw [if_pos h3]
      have h3' : (al != bl) = true := by simpa using h3
      go_enter Try.func16, Try.ntmps16
      go_wp2_with fail
      go_ret
      exact ⟨rfl, HG⟩
  · rw [if_pos (.inr h2)]
    have h2' : (ac != bc) = true := by simpa using h2
    simp only [h1, decide_false, Bool.false_or]
    go_enter Try.func16, Try.ntmps16
    go_wp2_with fail
    go_ret
    exact ⟨rfl, HG⟩

end Go.Proofs.Ytlinbocnhmkoeaa.SCost
