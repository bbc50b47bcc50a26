/- The first line: what is computed, and laws for the walk. -/
import Derived.Test.YthdohdllpaijhaaRCount
import Derived.Test.YthdohdllpaijhaaApp
import Derived.Maps.AppendAt
import Derived.Laws.OwnMore
namespace Go.Proofs.Ythdohdllpaijhaa.RFnd
open Go Go.RowKit Go.Proofs.Ythdohdllpaijhaa.RMod Go.Proofs.Ythdohdllpaijhaa.RCnt Go.Proofs.Ythdohdllpaijhaa.RMap Go.Proofs.Ythdohdllpaijhaa.ROn Go.Proofs.Ythdohdllpaijhaa.RTab Go.Proofs.Ythdohdllpaijhaa.RWrong Go.Proofs.Ythdohdllpaijhaa.RCount Go.Proofs.Ythdohdllpaijhaa.RAlone Go.Proofs.Ythdohdllpaijhaa.Hp Go.Proofs.Ythdohdllpaijhaa.Rd
set_option linter.unusedVariables false
set_option linter.unusedSimpArgs false

def keysR (r : Ru) : List Int := (List.range (r.high - r.low + 1).toNat).map fun j : Nat => r.low + (j : Int)

/-- May a line go on with this key? -/
def okK (T : Nat → Int → Bool → Nat) (r : Ru) (g : List Int) (i : Nat) (lk : Int) (ls : Bool) (k : Int) : Bool :=
  decide (T i k (decide (0 < i) && (k == lk)) ≠ 0) && (decide (i = 0) || decide (behindZ r g i k lk ls = 0))

def pick (T : Nat → Int → Bool → Nat) (r : Ru) (g : List Int) (i : Nat) (lk : Int) (ls : Bool) : Option Int := (keysR r).find? (okK T r g i lk ls)

def findFrom (T : Nat → Int → Bool → Nat) (r : Ru) (g : List Int) : Nat → Nat → Int → Bool → Option (List Int)
  | 0, _, _, _ => some []
  | m + 1, i, lk, ls => match pick T r g i lk ls with
    | none => none
    | some k => (findFrom T r g m (i + 1) k (decide (0 < i) && (k == lk))).map (k :: ·)

def tabF (r : Ru) (g : List Int) (i : Nat) : Int → Bool → Nat := tabC r g (g.length - 1 - i)
def findC (r : Ru) (g : List Int) : Option (List Int) := findFrom (tabF r g) r g g.length 0 (-1) false
def findL (r : Ru) (g : List Int) : List Int := if wrongR r g = 0 then (findC r g).getD [] else []
def findE (r : Ru) (g : List Int) : Int := if wrongR r g = 0 then (match findC r g with | none => 6 | some _ => 0) else wrongR r g

theorem find_first {P : Int → Bool} {low : Int} : ∀ (m : Nat) (K : Int), low ≤ K → K < low + m → (∀ k, low ≤ k → k < K → P k = false) → P K = true → ((List.range m).map fun j : Nat => low + (j : Int)).find? P = some K := by
  intro m K h0 h1 hn hk
  rw [List.find?_eq_some_iff_append]
  obtain ⟨j, rfl⟩ : ∃ j : Nat, K = low + j := ⟨(K - low).toNat, by omega⟩
  refine ⟨hk, ((List.range j).map fun j : Nat => low + (j : Int)), (List.range (m - j - 1)).map (fun x : Nat => low + ((j + 1 + x : Nat) : Int)), ?_, ?_⟩
  · apply List.ext_getElem?
    intro x
    rw [List.getElem?_append]
    simp only [List.length_map, List.length_range, List.getElem?_map]
    by_cases hx : x < j
    · rw [if_pos hx, List.getElem?_range (by omega), List.getElem?_range (by omega)]
    · rw [if_neg hx]
      by_cases hx2 : x = j
      · subst hx2
        rw [List.getElem?_range (by omega)]
        simp
      · obtain ⟨y, hy⟩ : ∃ y, x - j = y + 1 := ⟨x - j - 1, by omega⟩
        rw [hy, List.getElem?_cons_succ, List.getElem?_map]
        by_cases hm : x < m
        · rw [List.getElem?_range hm, List.getElem?_range (by omega)]
          simp only [Option.map_some]
          congr 1
          omega
        · rw [List.getElem?_eq_none (by simp; omega), List.getElem?_eq_none (by simp; omega)]
          rfl
  · intro k hk2
    simp only [List.mem_map, List.mem_range] at hk2
    obtain ⟨x, hx, rfl⟩ := hk2
    rw [hn _ (by omega) (by omega)]
    rfl

theorem find_none {P : Int → Bool} {low : Int} (m : Nat) (hn : ∀ k, low ≤ k → k < low + m → P k = false) : ((List.range m).map fun j : Nat => low + (j : Int)).find? P = none := by
  rw [List.find?_eq_none]
  intro k hk
  simp only [List.mem_map, List.mem_range] at hk
  obtain ⟨x, hx, rfl⟩ := hk
  rw [hn _ (by omega) (by omega)]
  simp

theorem pick_first {T : Nat → Int → Bool → Nat} {r : Ru} {g : List Int} {i : Nat} {lk : Int} {ls : Bool} {K : Int} (h0 : r.low ≤ K) (h1 : K ≤ r.high) (hn : ∀ k, r.low ≤ k → k < K → okK T r g i lk ls k = false) (hk : okK T r g i lk ls K = true) :
    pick T r g i lk ls = some K := find_first _ K h0 (by omega) hn hk
theorem pick_none {T : Nat → Int → Bool → Nat} {r : Ru} {g : List Int} {i : Nat} {lk : Int} {ls : Bool} (hl : r.low ≤ r.high) (hn : ∀ k, r.low ≤ k → k < r.high + 1 → okK T r g i lk ls k = false) : pick T r g i lk ls = none :=
  find_none _ fun k a b => hn k a (by omega)

theorem zero3 (w : World) : (zeroValue 3).run Try.prog w = .ok (.int .i64 0) w := by kernel_rfl

theorem look_tab {w : World} {b n : Nat} {f : Int → Bool → Nat} (h : Tab w b n f) {k : Int} {s : Bool} (hw : (Lit.int .i64 k).wf = true) :
    (Instr.lookup 38 (.map (some b)) (.agg #[.int .i64 k, .bool s]) false).run Try.prog w = .ok (.int .i64 (f k s : Int)) w := by
  obtain ⟨D, hown, hat, _⟩ := h
  obtain ⟨c, hrun, hc, _⟩ := hown.lookup_int law43 under38 under3 (zero3 w) (keyOf_kl (s := s) hw)
  rw [hat k s hw] at hc
  simp only [DataW.lit.injEq, Lit.int.injEq, true_and] at hc
  rw [hrun, hc]

/-- The table, below B. -/
def TF (w : World) (B cb n : Nat) (T : Nat → Int → Bool → Nat) : Prop := cb < B ∧ ∀ i, i ≤ n → ∃ b, b < B ∧ w.cell? ⟨cb, i, none⟩ = some (.map (some b)) ∧ Tab w b 256 (T i)

theorem TF.of {w : World} {cb n : Nat} {T : Nat → Int → Bool → Nat} (h : Tabs w cb n (n + 1) T) : TF w w.heap.size cb n T :=
  ⟨h.lt, fun i hi => let ⟨b, h1, h2⟩ := RCount.Tabs.first h hi; ⟨b, h2.lt, h1, h2⟩⟩

theorem TF.kept {w w' : World} {B cb n : Nat} {T : Nat → Int → Bool → Nat} {row : Option Nat} (h : TF w B cb n T) (hg : w.grownBy w' row) (hr : ∀ j, row = some j → B ≤ j) : TF w' B cb n T := by
  obtain ⟨h1, h2⟩ := h
  refine ⟨h1, fun i hi => ?_⟩
  obtain ⟨b, h3, h4, h5⟩ := h2 i hi
  refine ⟨b, h3, grown_cell hg h4 (fun e => ?_), h5.kept hg (fun e => ?_)⟩
  · have := hr _ e.symm; simp only at this; omega
  · have := hr _ e.symm; omega

theorem kept_row {w w' : World} {B b : Nat} {o : Obj} {row : Option Nat} (h : w.heap[b]? = some o) (hb : b < B) (hg : w.grownBy w' row) (hr : ∀ j, row = some j → B ≤ j) : w'.heap[b]? = some o := by
  rw [hg.block b (lt_of h) (fun e => by have := hr _ e.symm; omega)]
  exact h

end Go.Proofs.Ythdohdllpaijhaa.RFnd
