/- All moved as far: plain. -/
import Derived.Test.YthdohdllpaijhaaRFnd
namespace Go.Proofs.Ythdohdllpaijhaa.RMov
open Go Go.Proofs.Ythdohdllpaijhaa.RMod Go.Proofs.Ythdohdllpaijhaa.RCnt Go.Proofs.Ythdohdllpaijhaa.RFnd Go.Proofs.Ythdohdllpaijhaa.RCount
set_option linter.unusedVariables false
set_option linter.unusedSimpArgs false

/-- The rules s for the line up are those of r for g, all moved by b. -/
structure Moved (r s : Ru) (g up : List Int) (b : Int) : Prop where
  low : s.low = r.low + b
  high : s.high = r.high + b
  above : s.above = r.above
  leap : s.leap = r.leap
  may : ∀ k, r.low ≤ k → k ≤ r.high → mayB s.classes (k + b) = mayB r.classes k
  line : up = g.map (· + b)

variable {r s : Ru} {g up : List Int} {b : Int}

theorem apart_moved (x y b : Int) : apartZ (x + b) (y + b) = apartZ x y := by unfold apartZ; omega
theorem good_moved (x y b : Int) : goodB (x + b) (y + b) = goodB x y := by unfold goodB; rw [apart_moved]
theorem perf_moved (x y b : Int) : perfB (x + b) (y + b) = perfB x y := by unfold perfB; rw [apart_moved]

theorem Moved.len (h : Moved r s g up b) : up.length = g.length := by rw [h.line, List.length_map]

theorem Moved.at_ (h : Moved r s g up b) {i : Nat} (hi : i < g.length) : at_ up i = at_ g i + b := by
  unfold RMod.at_
  rw [h.line, List.getD_eq_getElem?_getD, List.getD_eq_getElem?_getD, List.getElem?_map, List.getElem?_eq_getElem hi]
  rfl

theorem Moved.alone (h : Moved r s g up b) {i : Nat} (hi : i < g.length) (k : Int) : aloneZ s up i (k + b) = aloneZ r g i k := by
  unfold aloneZ
  rw [h.low, h.high, h.above, h.at_ hi, good_moved, perf_moved, apart_moved, h.len]
  by_cases hr : k < r.low ∨ r.high < k
  · rw [if_pos (by omega), if_pos (by omega)]
  · have hm := h.may k (by omega) (by omega)
    rw [hm]
    have e1 : (k + b < r.low + b ∨ r.high + b < k + b ∨ mayB r.classes k = false) ↔ (k < r.low ∨ r.high < k ∨ mayB r.classes k = false) := by
      constructor <;> rintro (h | h | h) <;> first | (left; omega) | (right; left; omega) | (right; right; exact h)
    have e2 : (r.above = true ∧ k + b < RMod.at_ g i + b) ↔ (r.above = true ∧ k < RMod.at_ g i) := by
      constructor <;> rintro ⟨h1, h2⟩ <;> exact ⟨h1, by omega⟩
    simp only [e1, e2]

theorem Moved.behind (h : Moved r s g up b) {i : Nat} (hi : i < g.length) (k l : Int) (sm : Bool) : behindZ s up i (k + b) (l + b) sm = behindZ r g i k l sm := by
  unfold behindZ
  rw [h.leap, apart_moved, h.at_ hi, h.at_ (i := i - 1) (by omega), perf_moved, apart_moved, apart_moved]

theorem Moved.uni (h : Moved r s g up b) : uni s = (uni r).map fun t => (t.1 + b, t.2) := by
  unfold RCnt.uni
  rw [h.low, h.high, show r.high + b - (r.low + b) + 1 = r.high - r.low + 1 from by omega, List.map_flatMap]
  congr 1
  funext j
  simp only [List.map_cons, List.map_nil, Prod.mk.injEq, List.cons.injEq, and_true]
  omega

theorem sumL_map {α β : Type} (l : List α) (f : α → β) (F : β → Nat) : sumL (l.map f) F = sumL l fun a => F (f a) := by
  unfold sumL
  rw [List.map_map]
  rfl

theorem beq_moved (x y b : Int) : (x + b == y + b) = (x == y) := by
  rw [Bool.eq_iff_iff]
  simp
theorem dec_moved (x y b : Int) : decide (x + b = y + b) = decide (x = y) := by
  rw [Bool.eq_iff_iff]
  simp

theorem Moved.on (h : Moved r s g up b) : ∀ (d : Nat) (k : Int) (sm : Bool), d < g.length → onC s up d (k + b) sm = onC r g d k sm
  | 0, _, _, _ => rfl
  | d + 1, k, sm, hd => by
    unfold onC
    rw [h.uni, sumL_map]
    congr 1
    refine sumL_congr fun t _ => ?_
    have ho : okT s up d (t.1 + b, t.2) (k + b) sm = okT r g d t k sm := by
      unfold okT
      simp only
      rw [h.len, dec_moved, h.alone (by omega), h.behind (by omega)]
    rw [ho, h.on d t.1 t.2 (by omega)]

theorem Moved.tab (h : Moved r s g up b) {d : Nat} (hd : d < g.length) (k : Int) (sm : Bool) : tabC s up d (k + b) sm = tabC r g d k sm := by
  unfold tabC
  rw [h.len, h.alone (by omega), h.on d k sm hd]

theorem Moved.count (h : Moved r s g up b) (hg : 0 < g.length) : countC s up = countC r g := by
  unfold countC
  rw [h.uni, sumL_map, h.len]
  congr 1
  refine sumL_congr fun t _ => ?_
  simp only
  rw [h.tab (by omega)]

theorem Moved.keys (h : Moved r s g up b) : keysR s = (keysR r).map (· + b) := by
  unfold keysR
  rw [h.low, h.high, show r.high + b - (r.low + b) + 1 = r.high - r.low + 1 from by omega, List.map_map]
  congr 1
  funext j
  simp only [Function.comp_apply]
  omega

theorem Moved.ok (h : Moved r s g up b) {i : Nat} (hi : i < g.length) (lk lk' : Int) (hl : 0 < i → lk' = lk + b) (ls : Bool) (k : Int) : okK (tabF s up) s up i lk' ls (k + b) = okK (tabF r g) r g i lk ls k := by
  unfold okK tabF
  rw [h.len, h.tab (by omega)]
  by_cases h0 : 0 < i
  · rw [hl h0, beq_moved, h.behind hi]
  · rw [decide_eq_false h0, decide_eq_true (p := i = 0) (by omega)]
    simp

theorem Moved.pick (h : Moved r s g up b) {i : Nat} (hi : i < g.length) (lk lk' : Int) (hl : 0 < i → lk' = lk + b) (ls : Bool) : pick (tabF s up) s up i lk' ls = (pick (tabF r g) r g i lk ls).map (· + b) := by
  unfold RFnd.pick
  rw [h.keys, List.find?_map]
  congr 1
  congr 1
  funext k
  exact h.ok hi lk lk' hl ls k

theorem Moved.from (h : Moved r s g up b) : ∀ (m i : Nat) (lk lk' : Int) (ls : Bool), i + m = g.length → (0 < i → lk' = lk + b) →
    findFrom (tabF s up) s up m i lk' ls = (findFrom (tabF r g) r g m i lk ls).map (List.map (· + b))
  | 0, _, _, _, _, _, _ => rfl
  | m + 1, i, lk, lk', ls, hi, hl => by
    unfold findFrom
    rw [h.pick (by omega) lk lk' hl ls]
    cases hp : RFnd.pick (tabF r g) r g i lk ls with
    | none => rfl
    | some k =>
      simp only [Option.map_some]
      have e : (decide (0 < i) && (k + b == lk')) = (decide (0 < i) && (k == lk)) := by
        by_cases h0 : 0 < i
        · rw [hl h0, beq_moved]
        · rw [decide_eq_false h0]; rfl
      rw [e, Moved.from h m (i + 1) k (k + b) _ (by omega) (fun _ => rfl), Option.map_map, Option.map_map]
      congr 1

theorem Moved.findC (h : Moved r s g up b) : findC s up = (findC r g).map (List.map (· + b)) := by
  unfold RFnd.findC
  rw [h.len]
  exact h.from g.length 0 (-1) (-1) false (by omega) (fun h => absurd h (by omega))

theorem Moved.all (h : Moved r s g up b) (hw : wrongR s up = wrongR r g) : cntV s up = cntV r g ∧ findE s up = findE r g ∧ findL s up = (findL r g).map (· + b) := by
  by_cases h0 : wrongR r g = 0
  · have hlen := (okG_of h0).len
    refine ⟨?_, ?_, ?_⟩
    · unfold cntV; rw [hw, if_pos h0, if_pos h0, h.count (by omega)]
    · unfold findE
      rw [hw, if_pos h0, if_pos h0, h.findC]
      cases RFnd.findC r g <;> rfl
    · unfold findL
      rw [hw, if_pos h0, if_pos h0, h.findC]
      cases RFnd.findC r g <;> rfl
  · refine ⟨?_, ?_, ?_⟩
    · unfold cntV; rw [hw, if_neg h0, if_neg h0]
    · unfold findE; rw [hw, if_neg h0, if_neg h0]
    · unfold findL; rw [hw, if_neg h0, if_neg h0]; rfl

/-- The classes, moved: the bits of the classes that may be used, each moved round. -/
def bitsUp (c b : Int) : Nat → Int
  | 0 => 0
  | k + 1 => if mayB c (k : Int) = true then bitsUp c b k + 2 ^ (((k : Int) + b) % 12).toNat else bitsUp c b k

end Go.Proofs.Ythdohdllpaijhaa.RMov
