/- Texts of the graph seat, in one file: GRd, GCells, GStep, GMod, GOrd, GMem, GNode, GNode2, GNode3, GNode4, GPMem, GPState. -/
import Derived.Test.YtdliilmnfbgplaaGM1
import Derived.Deep.MidRow
import Derived.ArgAppend
import Derived.Laws.IdiomCopy
import Derived.Lib.SliceRun
import Derived.Maps.AppendAt
import Derived.Deep.RegionLaw
import Derived.Test.YtdliilmnfbgplaaGM2
/- A frame over all blocks but some; slices of elements of so many cells. -/
namespace Go.Proofs.Ytdliilmnfbgplaa.GRd
open Go Go.RowKit Go.Proofs.Ytdliilmnfbgplaa.Hp Go.Proofs.Ytdliilmnfbgplaa.Rd Go.Proofs.Ytdliilmnfbgplaa.Opn
set_option linter.unusedVariables false

/-- All but the blocks of X is as it was. -/
structure Fr (X : Nat → Prop) (w w' : World) : Prop where
  os : w'.os = w.os
  tape : w'.tape = w.tape
  output : w'.output = w.output
  size : w.heap.size ≤ w'.heap.size
  block : ∀ b, b < w.heap.size → ¬ X b → w'.heap[b]? = w.heap[b]?

section
variable {X : Nat → Prop} {a b c : World}
theorem Fr.refl (X : Nat → Prop) (w : World) : Fr X w w := ⟨rfl, rfl, rfl, Nat.le_refl _, fun _ _ _ => rfl⟩
theorem Fr.trans (h : Fr X a b) (k : Fr X b c) : Fr X a c :=
  ⟨k.os.trans h.os, k.tape.trans h.tape, k.output.trans h.output, Nat.le_trans h.size k.size, fun i hi hr => (k.block i (Nat.lt_of_lt_of_le hi h.size) hr).trans (h.block i hi hr)⟩
theorem Fr.of {row : Option Nat} (h : a.grownBy b row) (hr : ∀ i, row = some i → X i) : Fr X a b :=
  ⟨h.os, h.tape, h.output, h.size, fun i hi hx => h.block i hi (fun e => hx (hr i e.symm))⟩
theorem Fr.none (h : a.grownBy b none) : Fr X a b := .of h (fun i e => by cases e)
theorem Fr.mono {Y : Nat → Prop} (h : Fr X a b) (hx : ∀ i, X i → Y i) : Fr Y a b := ⟨h.os, h.tape, h.output, h.size, fun i hi hy => h.block i hi (fun e => hy (hx i e))⟩
theorem Fr.row (h : Fr X a b) {i : Nat} {o : Obj} (hi : a.heap[i]? = some o) (hx : ¬ X i) : b.heap[i]? = some o := by
  rw [h.block i (lt_of hi) hx]; exact hi
theorem Fr.cell (h : Fr X a b) {p : Addr} {v : Value} (hc : a.cell? p = some v) (hx : ¬ X p.block) : b.cell? p = some v := by
  have hlt : p.block < a.heap.size := by
    rcases Nat.lt_or_ge p.block a.heap.size with h | h
    · exact h
    · unfold World.cell? at hc
      rw [Array.getElem?_eq_none h] at hc
      cases hc
  rw [← hc]
  exact World.cell?_of_block (h.block _ hlt hx)
/-- Seen from where the call began. -/
theorem Fr.grown (h : Fr X a b) (hx : ∀ i, X i → a.heap.size ≤ i) : a.grownBy b Option.none := ⟨h.os, h.tape, h.output, h.size, fun i hi _ => h.block i hi (fun e => by have := hx i e; omega)⟩
end

/-- A slice of elements of so many cells, in blocks that A allows. -/
def SlA {α : Type} (s : Nat) (C : α → List Value) (w : World) (A : Nat → Prop) (v : Value) (xs : List α) : Prop :=
  (∃ b off cap, A b ∧ v = .slice (some ⟨b, off, none⟩) xs.length cap ∧ ∀ i x, xs[i]? = some x → w.rangeAt b (off + i * s) (C x)) ∨ (∃ ao cap, v = .slice ao 0 cap ∧ xs = [])

section
variable {α : Type} {s : Nat} {C : α → List Value} {w w' : World} {A A' : Nat → Prop} {v : Value} {xs : List α}
theorem SlA.mono (h : SlA s C w A v xs) (hA : ∀ b, A b → A' b) : SlA s C w A' v xs := by
  rcases h with ⟨b, off, cap, ha, e, h⟩ | h
  · exact .inl ⟨b, off, cap, hA b ha, e, h⟩
  · exact .inr h
theorem SlA.fr {X : Nat → Prop} (h : SlA s C w A v xs) (hf : Fr X w w') (hA : ∀ b, A b → ¬ X b) : SlA s C w' A v xs := by
  rcases h with ⟨b, off, cap, ha, e, h⟩ | h
  · exact .inl ⟨b, off, cap, ha, e, fun i x hx j u hu => hf.cell (h i x hx j u hu) (hA b ha)⟩
  · exact .inr h
theorem SlA.kept {row : Option Nat} (h : SlA s C w A v xs) (hg : w.grownBy w' row) (hr : ∀ b, row = some b → ¬ A b) : SlA s C w' A v xs := by
  rcases h with ⟨b, off, cap, ha, e, h⟩ | h
  · exact .inl ⟨b, off, cap, ha, e, fun i x hx j u hu => hg.cell (h i x hx j u hu) (fun e => hr b e.symm ha)⟩
  · exact .inr h
theorem SlA.grown (h : SlA s C w A v xs) (hg : w.grownBy w' none) : SlA s C w' A v xs := h.kept hg (fun b e => by cases e)
theorem sla_open (h : SlA s C w A v xs) : ∃ ao c, v = .slice ao xs.length c := by
  rcases h with ⟨b, off, cap, _, rfl, _⟩ | ⟨ao, cap, rfl, rfl⟩
  · exact ⟨_, _, rfl⟩
  · exact ⟨_, _, rfl⟩
theorem sla_at {ao : Option Addr} {n c : Nat} (h : SlA s C w A (.slice ao n c) xs) {i : Nat} {x : α} (hx : xs[i]? = some x) : ∃ b off, ao = some ⟨b, off, none⟩ ∧ A b ∧ w.rangeAt b (off + i * s) (C x) := by
  rcases h with ⟨b, off, cap, ha, e, h⟩ | ⟨_, _, _, rfl⟩
  · simp only [Value.slice.injEq] at e
    exact ⟨b, off, e.1, ha, h i x hx⟩
  · simp at hx
end

def AnyB : Nat → Prop := fun _ => True
/-! ### rows of the call's own -/
def flC {α : Type} (C : α → List Value) (xs : List α) : List Value := xs.flatMap C
section
variable {α : Type} {s : Nat} {C : α → List Value}
theorem flC_len (hC : ∀ x, (C x).length = s) (xs : List α) : (flC C xs).length = xs.length * s := by
  induction xs with
  | nil => simp [flC]
  | cons x xs ih =>
    have : flC C (x :: xs) = C x ++ flC C xs := rfl
    rw [this, List.length_append, hC, ih, List.length_cons, Nat.add_mul]
    omega
theorem flC_append (xs ys : List α) : flC C (xs ++ ys) = flC C xs ++ flC C ys := by simp [flC]
theorem flC_get (hC : ∀ x, (C x).length = s) : ∀ (xs : List α) (i : Nat) (x : α), xs[i]? = some x → ∀ j, j < s → (flC C xs)[i * s + j]? = (C x)[j]?
  | [], i, x, h, _, _ => by simp at h
  | a :: xs, 0, x, h, j, hj => by
    simp at h
    subst h
    have : flC C (a :: xs) = C a ++ flC C xs := rfl
    rw [this, Nat.zero_mul, Nat.zero_add, List.getElem?_append_left (by rw [hC]; exact hj)]
  | a :: xs, i + 1, x, h, j, hj => by
    have ih := flC_get hC xs i x (by simpa using h) j hj
    have : flC C (a :: xs) = C a ++ flC C xs := rfl
    have e : (i + 1) * s + j = s + (i * s + j) := by rw [Nat.add_mul]; omega
    rw [this, e, List.getElem?_append_right (by rw [hC]; omega), hC, Nat.add_sub_cancel_left]
    exact ih
theorem flC_split (hC : ∀ x, (C x).length = s) (hs : 0 < s) {xs : List α} {j : Nat} {u : Value} (h : (flC C xs)[j]? = some u) : ∃ x, xs[j / s]? = some x ∧ (C x)[j % s]? = some u := by
  have hj : j < (flC C xs).length := (List.getElem?_eq_some_iff.1 h).1
  rw [flC_len hC] at hj
  have hi : j / s < xs.length := Nat.div_lt_of_lt_mul (by rw [Nat.mul_comm]; exact hj)
  refine ⟨xs[j / s], List.getElem?_eq_getElem hi, ?_⟩
  rw [← flC_get hC xs (j / s) _ (List.getElem?_eq_getElem hi) (j % s) (Nat.mod_lt _ hs), Nat.div_add_mod']
  exact h

/-- A row of the call's own reads as what was put there. -/
theorem sla_of_own (hC : ∀ x, (C x).length = s) {w : World} {B : Nat} {e : TypeId} {v : Value} {xs : List α} (h : w.ownsRow B e s v xs.length (flC C xs)) (A : Nat → Prop) (hA : ∀ b, v.ownBlock = some b → A b) : SlA s C w A v xs := by
  rcases h.2 with ⟨rfl, hn⟩ | ⟨g, cap, cur, rfl, _, hgg, hc, hm1, hsz, ht⟩
  · exact .inr ⟨none, 0, rfl, List.eq_nil_of_length_eq_zero hn⟩
  · refine .inl ⟨g, 0, cap, hA g rfl, rfl, fun i x hx j u hu => ?_⟩
    have hj : j < s := by have := (List.getElem?_eq_some_iff.1 hu).1; rw [hC] at this; exact this
    have hi : i < xs.length := (List.getElem?_eq_some_iff.1 hx).1
    have h1 := flC_get hC xs i x hx j hj
    have hlt : i * s + j < xs.length * s := by
      have : (i + 1) * s ≤ xs.length * s := Nat.mul_le_mul_right _ hi
      rw [Nat.add_mul] at this
      omega
    rw [hu, ← ht, List.getElem?_take, if_pos hlt, Array.getElem?_toList] at h1
    rw [Nat.zero_add, cell_of hgg]
    exact h1
end

theorem own_base {w : World} {B : Nat} {e : TypeId} {sz : Nat} {v : Value} {n : Nat} {xs : List Value} (h : w.ownsRow B e sz v n xs) {b : Nat} (hb : v.ownBlock = some b) : B ≤ b ∧ b < w.heap.size := by
  rcases h.2 with ⟨rfl, _⟩ | ⟨b', cap, cur, rfl, hB, hg, _⟩
  · cases hb
  · injection hb with hb
    subst hb
    exact ⟨hB, lt_of hg⟩
theorem own_kept {w w' : World} {B : Nat} {e : TypeId} {sz : Nat} {v : Value} {n : Nat} {xs : List Value} (h : w.ownsRow B e sz v n xs) (hg : w.grownBy w' none) : w'.ownsRow B e sz v n xs := h.kept hg (by cases v.ownBlock <;> simp)
theorem own_fr {X : Nat → Prop} {w w' : World} {B : Nat} {e : TypeId} {sz : Nat} {v : Value} {n : Nat} {xs : List Value} (h : w.ownsRow B e sz v n xs) (hf : Fr X w w') (hx : ∀ b, v.ownBlock = some b → ¬ X b) : w'.ownsRow B e sz v n xs := by
  refine ⟨h.1, ?_⟩
  rcases h.2 with h | ⟨g, cap, cur, rfl, hb, hgg, rest⟩
  · exact .inl h
  · exact .inr ⟨g, cap, cur, rfl, hb, hf.row hgg (hx g rfl), rest⟩
theorem own_slice {w : World} {B : Nat} {e : TypeId} {sz : Nat} {v : Value} {n : Nat} {xs : List Value} (h : w.ownsRow B e sz v n xs) : ∃ ao c, v = .slice ao n c := by
  rcases h.2 with ⟨rfl, rfl⟩ | ⟨g, cap, cur, rfl, _⟩
  · exact ⟨_, _, rfl⟩
  · exact ⟨_, _, rfl⟩
theorem row_kept {a b : World} {row : Option Nat} (h : a.grownBy b row) {i : Nat} {o : Obj} (hi : a.heap[i]? = some o) (hr : some i ≠ row) : b.heap[i]? = some o := by
  rw [h.block i (lt_of hi) hr]
  exact hi
theorem grown_own {a b c : World} {r : Option Nat} {B : Nat} {e : TypeId} {sz : Nat} {v : Value} {n : Nat} {xs : List Value} (h : a.grownBy b r) (ho : b.ownsRow B e sz v n xs) (hB : a.heap.size ≤ B) (g : b.grownBy c v.ownBlock) : a.grownBy c r := by
  cases hv : v.ownBlock with
  | none => rw [hv] at g; exact grown_trans h (grown_none g _)
  | some k => rw [hv] at g; exact grown_from h g (.inl (Nat.le_trans hB (own_base ho hv).1))

end Go.Proofs.Ytdliilmnfbgplaa.GRd

/- copy, clear and append in a row, elements of whatever size. -/
namespace Go.Proofs.Ytdliilmnfbgplaa.GCells
open Go Go.RowKit Go.Proofs.Ytdliilmnfbgplaa.GRd Go.Proofs.Ytdliilmnfbgplaa.Hp Go.Proofs.Ytdliilmnfbgplaa.Rd
set_option linter.unusedVariables false

theorem run_copyN {P : Program} (w : World) (dT sT ty elem : TypeId) (i : TypeInfo) (b o dLen dCap : Nat) (a : Addr) (sLen sCap m : Nat) (cs : List Value)
    (hu : P.underlying dT = some (.slice elem)) (hi : P.info? elem = some i) (hm : Nat.min sLen dLen = m) (hn : cs.length = m * i.size)
    (hsrc : ∀ j v, cs[j]? = some v → w.cell? (a.add j) = some v) (hc : ∀ j, j < cs.length → (w.cell? ⟨b, o + j, none⟩).isSome = true) (hf : ∀ j, j < cs.length → w.frozen? ⟨b, o + j, none⟩ = false) (h1 : ∀ v ∈ cs, v.oneCell' = true) :
    (Builtin.copy_ #[dT, sT] ty #[.slice (some ⟨b, o, none⟩) dLen dCap, .slice (some a) sLen sCap]).run P w = .ok (goInt m) (w.setCells b o cs) := by
  have hl := run_loadCells_list (P := P) w a cs hsrc
  rw [hn] at hl
  have hst := run_storeCells_cells (P := P) b o cs 0 w (by simpa using hc) (by simpa using hf) h1
  simp [Builtin.copy_, run_underlying hu, Builtin.lenOf, Builtin.firstCells, sizeOf, typeInfo, hi, hm, hl, hst]

theorem run_clearN {P : Program} (n : Nat) (w : World) (t e ty : TypeId) (z : Value) (ht : P.underlying t = some (.slice e)) (hv : ∀ w, (zeroValue e).run P w = .ok z w) (h1 : ∀ v ∈ (Builtin.zeroCells z.cells n).toList, v.oneCell' = true) (b o c : Nat) (hn : 0 < n)
    (hc : ∀ j, j < (Builtin.zeroCells z.cells n).toList.length → (w.cell? ⟨b, o + j, none⟩).isSome = true) (hf : ∀ j, j < (Builtin.zeroCells z.cells n).toList.length → w.frozen? ⟨b, o + j, none⟩ = false) :
    (Builtin.clear_ #[t] ty #[.slice (some ⟨b, o, none⟩) n c]).run P w = .ok (.tuple #[]) (w.setCells b o (Builtin.zeroCells z.cells n).toList) := by
  have hst := run_storeCells_cells (P := P) b o (Builtin.zeroCells z.cells n).toList 0 w (by simpa using hc) (by simpa using hf) h1
  simp only [Nat.add_zero] at hst
  obtain ⟨m, rfl⟩ : ∃ m, n = m + 1 := ⟨n - 1, by omega⟩
  simp [Builtin.clear_, run_underlying ht, hv, hst]

/-- Cells laid into a row that is known whole. -/
theorem setCells_row (g : Nat) (e : TypeId) : ∀ (vs : List Value) (o : Nat) (w : World) (cur : Array Value), w.heap[g]? = some (.cells cur e (0, 0)) → o + vs.length ≤ cur.size →
    ∃ cur', (w.setCells g o vs).heap[g]? = some (.cells cur' e (0, 0)) ∧ cur'.size = cur.size ∧ (∀ j, cur'[j]? = if o ≤ j ∧ j < o + vs.length then vs[j - o]? else cur[j]?) ∧ w.grownBy (w.setCells g o vs) (some g)
  | [], o, w, cur, h, _ => ⟨cur, h, rfl, fun j => by rw [if_neg (by simp)], grown_refl _ _⟩
  | v :: r, o, w, cur, h, hl => by
    simp only [List.length_cons] at hl
    obtain ⟨c1, h1, h2, h3, h4⟩ := setCells_row g e r (o + 1) (w.setCell ⟨g, o, none⟩ v) (cur.setIfInBounds o v) (set_self h v) (by simp; omega)
    refine ⟨c1, h1, by rw [h2]; simp, fun j => ?_, grown_trans (grown_set (p := ⟨g, o, none⟩) (grown_refl _ _) (.inl rfl) _) h4⟩
    rw [h3 j]
    simp only [List.length_cons]
    by_cases e1 : j = o
    · subst e1
      rw [if_neg (by omega), if_pos (by omega), Nat.sub_self, Array.getElem?_setIfInBounds_self_of_lt (by omega)]
      rfl
    · by_cases e2 : o + 1 ≤ j ∧ j < o + 1 + r.length
      · rw [if_pos e2, if_pos (by omega), show j - o = (j - (o + 1)) + 1 from by omega]
        rfl
      · rw [if_neg e2, if_neg (by omega), Array.getElem?_setIfInBounds_ne (by omega)]

theorem own_of_row {w : World} {B : Nat} {e : TypeId} {g n c s : Nat} {cur : Array Value} {xs : List Value} (hB : B ≤ g) (hr : w.heap[g]? = some (.cells cur e (0, 0))) (hnc : n ≤ c) (hc : c ≤ maxLen) (hs : cur.size = c * s) (hx : xs.length = n * s)
    (h : ∀ j, j < n * s → cur[j]? = xs[j]?) : w.ownsRow B e s (.slice (some ⟨g, 0, none⟩) n c) n xs := by
  refine ⟨hx, .inr ⟨g, c, cur, rfl, hB, hr, hnc, hc, hs, ?_⟩⟩
  apply List.ext_getElem?
  intro j
  rw [List.getElem?_take]
  split
  · rename_i hj
    rw [Array.getElem?_toList]
    exact h j hj
  · rename_i hj
    rw [List.getElem?_eq_none (by omega)]

theorem own_row {w : World} {B : Nat} {e : TypeId} {s n : Nat} {ao : Option Addr} {c : Nat} {xs : List Value} (h : w.ownsRow B e s (.slice ao n c) n xs) (hn : 0 < n) :
    ∃ g cur, ao = some ⟨g, 0, none⟩ ∧ B ≤ g ∧ w.heap[g]? = some (.cells cur e (0, 0)) ∧ n ≤ c ∧ c ≤ maxLen ∧ cur.size = c * s ∧ ∀ j, j < n * s → cur[j]? = xs[j]? := by
  rcases h.2 with ⟨h, h0⟩ | ⟨g, cap, cur, hv, hB, hg, hc, hm, hs, ht⟩
  · omega
  · simp only [Value.slice.injEq] at hv
    obtain ⟨rfl, _, rfl⟩ := hv
    refine ⟨g, cur, rfl, hB, hg, hc, hm, hs, fun j hj => ?_⟩
    rw [← ht, List.getElem?_take, if_pos hj, Array.getElem?_toList]

end Go.Proofs.Ytdliilmnfbgplaa.GCells

/- append in a row of the call's own, as a step of a region that draws its order. -/
namespace Go.Proofs.Ytdliilmnfbgplaa.GStep
open Go Go.RowKit Go.Proofs.Ytdliilmnfbgplaa.GRd Go.Proofs.Ytdliilmnfbgplaa.GCells Go.Proofs.Ytdliilmnfbgplaa.Hp Go.Proofs.Ytdliilmnfbgplaa.Rd
set_option linter.unusedVariables false
set_option linter.unusedSimpArgs false

/-- What append makes of a row of the call's own and what lies in a slice. -/
theorem run_append_in {P : Program} {w : World} (base : Nat) (t ty e : TypeId) (i : TypeInfo) (z : Value) (size bytes : Nat) (ht : P.underlying t = some (.slice e)) (hi : P.info? e = some i) (hz : i.zero = some z)
    (hsize : i.size = size) (hby : i.bytes = bytes) (hzs : z.cells.size = size) (hsz : 0 < size)
    (v : Value) (n : Nat) (xs : List Value) (hown : w.ownsRow base e size v n xs)
    (ao : Option Addr) (m c : Nat) (news : List Value) (hl : news.length = m * size) (hnews : ∀ j u, news[j]? = some u → ∃ b off, ao = some ⟨b, off, none⟩ ∧ w.cell? ⟨b, off + j, none⟩ = some u) (h1 : ∀ u ∈ news, u.oneCell' = true)
    (h63 : n + m ≤ maxLen) (hbytes : (n + m) * bytes ≤ 140737488355328) (hbase : base ≤ w.heap.size) :
    ∃ v' w', (Builtin.append_ #[t, t] ty #[v, .slice ao m c]).run P w = .ok v' w' ∧ w'.ownsRow base e size v' (n + m) (xs ++ news) ∧ w.grownBy w' v.ownBlock ∧ (v'.ownBlock = v.ownBlock ∨ v'.ownBlock = some w.heap.size) := by
  cases ao with
  | some ad =>
    obtain ⟨v', w', h2, h3, h4, _, h5⟩ := run_append_own_at (P := P) w base t ty e i z size bytes ht hi hz hsize hby hzs hsz v n xs hown ad m c news hl (fun j u hj => by
      obtain ⟨b, off, he, hc⟩ := hnews j u hj
      injection he with he
      subst he
      rw [show ((⟨b, off, none⟩ : Addr).add j) = ⟨b, off + j, none⟩ from Addr.add_lit _ _ _]
      exact hc) h1 h63 hbytes hbase
    exact ⟨v', w', h2, h3, h4, h5⟩
  | none =>
    have hn : news = [] := by
      cases news with
      | nil => rfl
      | cons u l => obtain ⟨b, off, he, _⟩ := hnews 0 u rfl; cases he
    subst hn
    obtain rfl : m = 0 := by
      rcases Nat.mul_eq_zero.1 hl.symm with h | h
      · exact h
      · omega
    refine ⟨v, w, ?_, by rw [List.append_nil]; exact hown, grown_refl _ _, .inl rfl⟩
    rcases hown.2 with ⟨rfl, rfl⟩ | ⟨g, cap, cur, rfl, _, _, hnc, _⟩
    · simp [Builtin.append_, run_underlying ht, sizeOf, typeInfo, hi, Builtin.lenOf, Builtin.firstCells]
    · simp [Builtin.append_, run_underlying ht, sizeOf, typeInfo, hi, Builtin.lenOf, Builtin.firstCells, hnc, storeCells]

theorem step_append_in {P : Program} {w : World} {ops : Array Oper} {o : Oper} {a : Act} {K : Act → World → Prop} {Q : Exit → Act → World → Prop} {E : Prop} (hgd : o.guard = none) (s x : Operand) (t : TypeId)
    (ho : o.op = .call { callee := .builtin .append, args := #[s, x], argTypes := #[t, t] })
    (base : Nat) (e : TypeId) (i : TypeInfo) (z : Value) (size bytes : Nat) (ht : P.underlying t = some (.slice e)) (hi : P.info? e = some i) (hz : i.zero = some z)
    (hsize : i.size = size) (hby : i.bytes = bytes) (hzs : z.cells.size = size) (hsz : 0 < size)
    (v : Value) (n : Nat) (xs : List Value) (hs : a.eval s = v) (hown : w.ownsRow base e size v n xs)
    (ao : Option Addr) (m c : Nat) (news : List Value) (hx : a.eval x = .slice ao m c) (hl : news.length = m * size) (hnews : ∀ j u, news[j]? = some u → ∃ b off, ao = some ⟨b, off, none⟩ ∧ w.cell? ⟨b, off + j, none⟩ = some u) (h1 : ∀ u ∈ news, u.oneCell' = true)
    (h63 : n + m ≤ maxLen) (hbytes : (n + m) * bytes ≤ 140737488355328) (hbase : base ≤ w.heap.size)
    (h : ∀ oa oc w', w'.ownsRow base e size (.slice oa (n + m) oc) (n + m) (xs ++ news) → w.grownBy w' v.ownBlock → ((Value.slice oa (n + m) oc).ownBlock = v.ownBlock ∨ (Value.slice oa (n + m) oc).ownBlock = some w.heap.size) → K (a.put o.dst (.slice oa (n + m) oc)) w') :
    if Region.wanted o (yielded ops a.tmps) = true then Oper.wp P o a w K Q else E := by
  have hw : Region.wanted o (yielded ops a.tmps) = true := by simp [Region.wanted, hgd]
  rw [if_pos hw]
  obtain ⟨v', w', hr, h2, h3, h4⟩ := run_append_in (P := P) (w := w) base t o.type e i z size bytes ht hi hz hsize hby hzs hsz v n xs hown ao m c news hl hnews h1 h63 hbytes hbase
  obtain ⟨oa, oc, rfl⟩ := own_slice h2
  unfold Oper.wp
  simp [execOp, ho, resolve, invoke, builtin, hs, hx, hr, Result.andThen]
  exact h oa oc w' h2 h3 h4

/-- Empty rows, in worlds with a block more. -/
theorem own_emp {w : World} {base g : Nat} {e : TypeId} {size : Nat} (h : w.heap[g]? = some (.cells #[] e (0, 0))) (hg : base ≤ g) : w.ownsRow base e size (.slice (some ⟨g, 0, none⟩) 0 0) 0 [] :=
  ⟨by simp, .inr ⟨g, 0, #[], rfl, hg, h, Nat.le_refl _, Nat.zero_le _, by simp, by simp⟩⟩
theorem alloc2_old (w : World) (a b : Obj) : ((w.alloc a).alloc b).heap[w.heap.size]? = some a := row_kept (grown_alloc (grown_refl (w.alloc a) none) b) (heap_alloc_new w a) (by simp)
theorem alloc2_new (w : World) (a b : Obj) : ((w.alloc a).alloc b).heap[w.heap.size + 1]? = some b := by
  have h := heap_alloc_new (w.alloc a) b
  have e : (w.alloc a).heap.size = w.heap.size + 1 := by simp
  rw [e] at h
  exact h
theorem alloc2_kept {w : World} {a b : Obj} {i : Nat} {o : Obj} (h : w.heap[i]? = some o) : ((w.alloc a).alloc b).heap[i]? = some o := row_kept (grown_alloc (grown_alloc (grown_refl w none) a) b) h (by simp)

/-- The same, to an empty row. -/
theorem step_append_emp {P : Program} {w : World} {ops : Array Oper} {o : Oper} {a : Act} {K : Act → World → Prop} {Q : Exit → Act → World → Prop} {E : Prop} (hgd : o.guard = none) (s x : Operand) (t : TypeId)
    (ho : o.op = .call { callee := .builtin .append, args := #[s, x], argTypes := #[t, t] })
    (base : Nat) (e : TypeId) (i : TypeInfo) (z : Value) (size bytes : Nat) (ht : P.underlying t = some (.slice e)) (hi : P.info? e = some i) (hz : i.zero = some z)
    (hsize : i.size = size) (hby : i.bytes = bytes) (hzs : z.cells.size = size) (hsz : 0 < size)
    (g : Nat) (hs : a.eval s = .slice (some ⟨g, 0, none⟩) 0 0) (hemp : w.heap[g]? = some (.cells #[] e (0, 0))) (hg : base ≤ g)
    (ao : Option Addr) (m c : Nat) (news : List Value) (hx : a.eval x = .slice ao m c) (hl : news.length = m * size) (hnews : ∀ j u, news[j]? = some u → ∃ b off, ao = some ⟨b, off, none⟩ ∧ w.cell? ⟨b, off + j, none⟩ = some u) (h1 : ∀ u ∈ news, u.oneCell' = true)
    (h63 : m ≤ maxLen) (hbytes : m * bytes ≤ 140737488355328) (hbase : base ≤ w.heap.size)
    (h : ∀ oa oc w', w'.ownsRow base e size (.slice oa m oc) m news → w.grownBy w' (some g) → K (a.put o.dst (.slice oa m oc)) w') :
    if Region.wanted o (yielded ops a.tmps) = true then Oper.wp P o a w K Q else E := by
  have H := step_append_in (P := P) (w := w) (ops := ops) (o := o) (a := a) (K := K) (Q := Q) (E := E) hgd s x t ho base e i z size bytes ht hi hz hsize hby hzs hsz (.slice (some ⟨g, 0, none⟩) 0 0) 0 [] hs (own_emp hemp hg) ao m c news hx hl hnews h1 (by rw [Nat.zero_add]; exact h63) (by rw [Nat.zero_add]; exact hbytes) hbase
  simp only [Nat.zero_add, List.nil_append] at H
  exact H (fun oa oc w' h2 h3 _ => h oa oc w' h2 h3)

theorem news_row {w : World} {B : Nat} {cs : List Value} {e : TypeId} {z : Nat × Nat} (h : w.heap[B]? = some (.cells cs.toArray e z)) : ∀ j u, cs[j]? = some u → ∃ b off, (some ⟨B, 0, none⟩ : Option Addr) = some ⟨b, off, none⟩ ∧ w.cell? ⟨b, off + j, none⟩ = some u := by
  intro j u hu
  refine ⟨B, 0, rfl, ?_⟩
  rw [Nat.zero_add, cell_of h]
  simpa using hu

theorem sla_take {α : Type} {s : Nat} {C : α → List Value} {w : World} {A : Nat → Prop} {ao : Option Addr} {n c k : Nat} {xs : List α} (h : SlA s C w A (.slice ao n c) xs) (hn : xs.length = n) (hk : k ≤ n) : SlA s C w A (.slice ao k c) (xs.take k) := by
  rcases h with ⟨b, off, cap, ha, e, h⟩ | ⟨ao2, c2, e, rfl⟩
  · simp only [Value.slice.injEq] at e
    refine .inl ⟨b, off, c, ha, by rw [e.1, List.length_take, Nat.min_eq_left (by omega)], fun i x hx => h i x ?_⟩
    rw [List.getElem?_take] at hx
    split at hx
    · exact hx
    · cases hx
  · simp at hn
    subst hn
    obtain rfl : k = 0 := by omega
    exact .inr ⟨ao, c, rfl, rfl⟩

/-- The cells of a slice's part. -/
theorem news_sl {α : Type} {s : Nat} {C : α → List Value} (hC : ∀ x, (C x).length = s) (hs : 0 < s) {w : World} {A : Nat → Prop} {ao : Option Addr} {n c : Nat} {ts : List α} (h : SlA s C w A (.slice ao n c) ts) : ∀ j u, (flC C ts)[j]? = some u → ∃ b off, ao = some ⟨b, off, none⟩ ∧ w.cell? ⟨b, off + j, none⟩ = some u := by
  intro j u hu
  obtain ⟨e, he, hu2⟩ := flC_split hC hs hu
  obtain ⟨b, off, rfl, _, hrg⟩ := sla_at h he
  refine ⟨b, off, rfl, ?_⟩
  have := hrg (j % s) u hu2
  rw [show off + j = off + j / s * s + j % s from by rw [Nat.add_assoc, Nat.div_add_mod']]
  exact this

/-- One of a row of the call's own. -/
theorem own_at {α : Type} {s : Nat} {C : α → List Value} (hC : ∀ x, (C x).length = s) {w : World} {B : Nat} {e : TypeId} {ao : Option Addr} {n c : Nat} {xs : List α} (h : w.ownsRow B e s (.slice ao n c) n (flC C xs)) (hl : xs.length = n) {i : Nat} {x : α} (hx : xs[i]? = some x) :
    ∃ g, ao = some ⟨g, 0, none⟩ ∧ B ≤ g ∧ g < w.heap.size ∧ n ≤ c ∧ ∀ j u, (C x)[j]? = some u → w.cell? ⟨g, i * s + j, none⟩ = some u := by
  have hi := (List.getElem?_eq_some_iff.1 hx).1
  obtain ⟨g, cur, rfl, hB, hg, hnc, _, hsz, hc⟩ := own_row h (by omega)
  refine ⟨g, rfl, hB, lt_of hg, hnc, fun j u hu => ?_⟩
  have hj : j < s := by have := (List.getElem?_eq_some_iff.1 hu).1; rw [hC] at this; exact this
  have hlt : i * s + j < n * s := by
    have : (i + 1) * s ≤ n * s := Nat.mul_le_mul_right _ (by omega)
    rw [Nat.add_mul] at this
    omega
  rw [cell_of hg, hc _ hlt, flC_get hC xs i x hx j hj]
  exact hu

theorem sla_blk {α : Type} {s : Nat} {C : α → List Value} {w : World} {A : Nat → Prop} {g o n c : Nat} {xs : List α} (h : SlA s C w A (.slice (some ⟨g, o, none⟩) n c) xs) : SlA s C w (fun b => b = g) (.slice (some ⟨g, o, none⟩) n c) xs := by
  rcases h with ⟨b, off, cap, ha, e, h⟩ | h
  · simp only [Value.slice.injEq, Option.some.injEq, Addr.mk.injEq] at e
    obtain ⟨⟨rfl, rfl, _⟩, rfl, rfl⟩ := e
    exact .inl ⟨_, _, _, rfl, rfl, h⟩
  · exact .inr h

theorem fr_trans0 {X : Nat → Prop} {a b c : World} (h : Fr X a b) (k : Fr X b c) : Fr X a c :=
  ⟨k.os.trans h.os, k.tape.trans h.tape, k.output.trans h.output, Nat.le_trans h.size k.size, fun i hi hx => (k.block i (Nat.lt_of_lt_of_le hi h.size) hx).trans (h.block i hi hx)⟩

theorem own_sla {α : Type} {s : Nat} {C : α → List Value} (hC : ∀ x, (C x).length = s) {w : World} {B : Nat} {e : TypeId} {v : Value} {n : Nat} {xs : List α} (hl : xs.length = n) (h : w.ownsRow B e s v n (flC C xs)) : SlA s C w AnyB v xs := by
  subst hl
  exact sla_of_own hC h AnyB (fun _ _ => trivial)

theorem own_mono {w : World} {B B' : Nat} {e : TypeId} {sz : Nat} {v : Value} {n : Nat} {xs : List Value} (h : w.ownsRow B' e sz v n xs) (hB : B ≤ B') : w.ownsRow B e sz v n xs := by
  refine ⟨h.1, ?_⟩
  rcases h.2 with h | ⟨g, cap, cur, hv, hb, rest⟩
  · exact .inl h
  · exact .inr ⟨g, cap, cur, hv, Nat.le_trans hB hb, rest⟩

theorem fr_set {X : Nat → Prop} {a b : World} (h : Fr X a b) {p : Addr} (hp : X p.block ∨ a.heap.size ≤ p.block) (v : Value) : Fr X a (b.setCell p v) :=
  ⟨h.os, h.tape, h.output, by rw [size_set]; exact h.size, fun i hi hx => by
    rw [set_other (fun e => by
      subst e
      rcases hp with hp | hp
      · exact hx hp
      · omega) v]
    exact h.block i hi hx⟩

theorem fr_drewN {X : Nat → Prop} {a b : World} (h : Fr X a b) (n : Nat) : Fr X a (b.drewN n) := ⟨h.os, h.tape, h.output, h.size, h.block⟩

theorem wpM_store {P : Program} {ops : Array Oper} {C : World → Prop} {B : Nat → Bool} {Q : Act → World → Prop} {k : Nat} {o : Oper} {rest : List Oper} {a : Act} {w : World} (hw : Region.wanted o (yielded ops a.tmps) = true) (hB : B k = true) (w' : World)
    (hr : (execOp a.eval o).run P w = .ok .skip w') (hc : C w') (h : Mixed.wpM P ops C B Q (k + 1) rest (a.put o.dst undef) w') : Mixed.wpM P ops C B Q k (o :: rest) a w := by
  refine Mixed.wpM_big hw hB ?_
  unfold Mixed.bigAt
  rw [hr]
  exact ⟨hc, h⟩

theorem wpM_nc {P : Program} {ops : Array Oper} {C : World → Prop} {B : Nat → Bool} {Q : Act → World → Prop} {k : Nat} {o : Oper} {rest : List Oper} {a : Act} {w : World} (hw : Region.wanted o (yielded ops a.tmps) = true) (hB : B k = false) (x : Operand) (p : Addr) (ho : o.op = .nilCheck x) (hx : a.eval x = .pointer (some p))
    (h : Mixed.wpM P ops C B Q (k + 1) rest (a.put o.dst (.pointer (some p))) w) : Mixed.wpM P ops C B Q k (o :: rest) a w :=
  Mixed.wpM_val hw hB _ (fun w' _ => by unfold execOp; simp only [ho]; rw [hx]; rfl) h

theorem wpM_nci {P : Program} {ops : Array Oper} {C : World → Prop} {B : Nat → Bool} {Q : Act → World → Prop} {k : Nat} {o : Oper} {rest : List Oper} {a : Act} {w : World} (hw : Region.wanted o (yielded ops a.tmps) = true) (hB : B k = false) (x : Operand) (t : TypeId) (p : Value) (ho : o.op = .nilCheck x) (hx : a.eval x = .iface t p)
    (h : Mixed.wpM P ops C B Q (k + 1) rest (a.put o.dst (.iface t p)) w) : Mixed.wpM P ops C B Q k (o :: rest) a w :=
  Mixed.wpM_val hw hB _ (fun w' _ => by unfold execOp; simp only [ho]; rw [hx]; rfl) h

theorem grown_new2 {a b c : World} {k : Nat} (h : a.grownBy b none) (g : b.grownBy c (some k)) (hk : a.heap.size ≤ k) : a.grownBy c none := grown_from h g (.inl hk)

theorem grown_drew_alloc (w : World) (o : Obj) : w.grownBy (w.drew.alloc o) none := grown_alloc (grown_drew (grown_refl _ _)) _

theorem grown_alloc_drew (w : World) (o : Obj) : w.grownBy ((w.alloc o).drew) none := grown_drew (grown_alloc (grown_refl _ _) _)

theorem fr_trans2 {X Y : Nat → Prop} {a b c : World} (h : Fr X a b) (k : Fr Y b c) (hy : ∀ i, Y i → X i ∨ a.heap.size ≤ i) : Fr X a c :=
  ⟨k.os.trans h.os, k.tape.trans h.tape, k.output.trans h.output, Nat.le_trans h.size k.size, fun i hi hx => (k.block i (Nat.lt_of_lt_of_le hi h.size) (fun e => (hy i e).elim hx (fun e2 => by omega))).trans (h.block i hi hx)⟩

/-- The worlds in which nothing but the blocks of X has turned. -/
structure LaterX (X : Nat → Prop) (W : World) where
  w : World
  h : Fr X W w

def lateX (X : Nat → Prop) (W : World) (w' : World) : Prop := ∃ n : LaterX X W, w' = n.w

theorem LaterX.nonempty (X : Nat → Prop) (W : World) : Nonempty (LaterX X W) := ⟨⟨W, Fr.refl _ _⟩⟩

theorem LaterX.cell {X : Nat → Prop} {W : World} {p : Addr} {v : Value} (h : W.cell? p = some v) (hx : ¬ X p.block) (n : LaterX X W) : n.w.cell? p = some v := n.h.cell h hx
end Go.Proofs.Ytdliilmnfbgplaa.GStep

/- Graphs: nodes, what they remember, what they make; plain. Samples are words, all NaNs as one. -/
namespace Go.Proofs.Ytdliilmnfbgplaa.GMod
open Go Go.Proofs.Ytdliilmnfbgplaa.Fl
set_option linter.unusedVariables false

abbrev Co := GFRun.Co
abbrev Pt := GVMod.Pt

structure Nd where
  kind : Int
  from_ : List Int
  n : Int
  x : Nat
  co : Co
  pt : Pt
structure Gd where
  ins : Int
  nodes : List Nd
  outs : List Int

def manyZ (k : Int) : Int := if k = 1 ∨ k = 2 ∨ k = 8 then 0 else if k = 3 ∨ k = 6 ∨ k = 7 then 1 else if k = 5 then 2 else if k = 4 then -1 else -2

def badRef (n : Nat) (k : Int) : Bool := decide (k < 0) || decide ((n : Int) ≤ k)

/-- What is wrong with a node. -/
def madeE (g : Gd) (x : Nd) : Int :=
  if manyZ x.kind = -2 then 1
  else if 0 ≤ manyZ x.kind ∧ manyZ x.kind ≠ (x.from_.length : Int) then 5
  else if x.from_.any (badRef g.nodes.length) = true then 8
  else if x.kind = 1 then (if x.n < 0 ∨ g.ins ≤ x.n then 3 else 0)
  else if x.kind = 6 then (if x.n < 1 ∨ 4096 < x.n then 3 else 0)
  else if x.kind = 7 then (if GFNew.okAll x.co = true then 0 else 3)
  else if x.kind = 8 then GVMod.wrongP x.pt
  else 0

/-- What a node remembers. -/
inductive NS
  | ent (n : Nat)
  | con (x : Nat)
  | gai (x : Nat)
  | mix
  | tim
  | del (ring : List Nat) (at_ : Nat)
  | fil (c : Co) (s : GFRun.St)
  | sin (p : Pt) (s : GVMod.St)

/-- A node that was just made. -/
def start (x : Nd) : NS :=
  if x.kind = 1 then .ent x.n.toNat
  else if x.kind = 2 then .con (cn x.x)
  else if x.kind = 3 then .gai (cn x.x)
  else if x.kind = 4 then .mix
  else if x.kind = 5 then .tim
  else if x.kind = 6 then .del (List.replicate x.n.toNat 0) 0
  else if x.kind = 7 then .fil x.co GFNew.rest0
  else .sin x.pt GVWalk.st0

/-- .. and at rest. -/
def restN : NS → NS
  | .del r _ => .del (List.replicate r.length 0) 0
  | .fil c _ => .fil c GFNew.rest0
  | .sin p _ => .sin p GVWalk.st0
  | s => s

/-- The sum, from the first one on. -/
def mixN (n : Nat) : List (List Nat) → List Nat
  | [] => List.replicate n 0
  | a :: l => l.foldl (List.zipWith fadd) a

/-- What a node that does not tell first makes of n samples of those it listens to. -/
def runN (s : NS) (ins : List (List Nat)) (n : Nat) : List Nat × NS :=
  match s with
  | .ent k => (ins.getD 0 [], .ent k)
  | .con x => (List.replicate n x, .con x)
  | .gai x => ((ins.getD 0 []).map (fmul x), .gai x)
  | .mix => (mixN n ins, .mix)
  | .tim => (List.zipWith fmul (ins.getD 0 []) (ins.getD 1 []), .tim)
  | .del r a => (List.replicate n 0, .del r a)
  | .fil c s => (GFRun.outs c s (ins.getD 0 []), .fil c (GFRun.fin c s (ins.getD 0 [])))
  | .sin p s => ((GVMod.play p n s).1.map cn, .sin p (GVMod.after p n s))

/-- A delay tells. -/
def tellN (ring : List Nat) (a n : Nat) : List Nat := (List.range n).map fun t => ring.getD ((a + t) % ring.length) 0
/-- A delay hears. -/
def hearN : List Nat → Nat → List Nat → List Nat × Nat
  | ring, a, [] => (ring, a)
  | ring, a, x :: l => hearN (ring.set a x) ((a + 1) % ring.length) l

def isDel : NS → Bool
  | .del _ _ => true
  | _ => false

/-- What lies in 'past' ahead of the nodes that do not tell first. -/
def past0 (n : Nat) : NS → List Nat
  | .del r a => tellN r a n
  | _ => List.replicate n 0

/-- What a node listens to. -/
def heardN (ins : List (List Nat)) (past : List (List Nat)) (x : Nd) (s : NS) : List (List Nat) :=
  (match s with
    | .ent k => [ins.getD k []]
    | _ => []) ++ x.from_.map (fun k => past.getD k.toNat [])

/-- The nodes that do not tell first, one behind the other. -/
def playN (g : Gd) (ins : List (List Nat)) (n : Nat) : List Nat → List (List Nat) × List NS → List (List Nat) × List NS
  | [], st => st
  | i :: l, (past, sts) =>
    match g.nodes[i]?, sts[i]? with
    | some x, some s => playN g ins n l (past.set i (runN s (heardN ins past x s) n).1, sts.set i (runN s (heardN ins past x s) n).2)
    | _, _ => playN g ins n l (past, sts)

/-- Behind them the delays hear. -/
def endN (past : List (List Nat)) (x : Nd) (s : NS) : NS :=
  match s with
  | .del r a => let p := hearN r a (past.getD ((x.from_.getD 0 0).toNat) []); .del p.1 p.2
  | s => s

/-- So many samples at once: what the nodes made, what they remember. -/
def pieceN (g : Gd) (order : List Nat) (sts : List NS) (ins : List (List Nat)) (n : Nat) : List (List Nat) × List NS :=
  let p := playN g ins n order (sts.map (past0 n), sts)
  (p.1, List.zipWith (endN p.1) g.nodes p.2)

/-- Piece by piece, no longer than chunk. -/
def chunksN (g : Gd) (order : List Nat) (chunk : Nat) (ins : List (List Nat)) (n : Nat) : Nat → Nat → List NS → List (List Nat) → List (List Nat) × List NS
  | 0, _, sts, outs => (outs, sts)
  | f + 1, at_, sts, outs =>
    if at_ < n then
      let m := min chunk (n - at_)
      let p := pieceN g order sts (ins.map fun l => (l.drop at_).take m) m
      chunksN g order chunk ins n f (at_ + m) p.2 (List.zipWith (fun o k => o ++ p.1.getD k.toNat []) outs g.outs)
    else (outs, sts)

/-- What is wrong with a piece. -/
def rightE (g : Gd) (ins : List (List Nat)) (n : Int) : Int :=
  if n < 0 ∨ 65536 < n then 3
  else if (ins.length : Int) ≠ g.ins then 8
  else if ins.any (fun l => decide ((l.length : Int) ≠ n)) = true then 8
  else 0

def runG (g : Gd) (order : List Nat) (chunk : Nat) (sts : List NS) (ins : List (List Nat)) (n : Int) : (List (List Nat) × Int) × List NS :=
  if rightE g ins n ≠ 0 then (([], rightE g ins n), sts)
  else
    let p := chunksN g order chunk ins n.toNat n.toNat 0 sts (List.replicate g.outs.length [])
    ((p.1, 0), p.2)

/-- A piece: what comes in, how many samples, whether all is forgotten ahead of it. -/
structure Pc where
  ins : List (List Nat)
  n : Int
  rest : Bool

def soundG (g : Gd) (order : List Nat) (chunk : Nat) : List NS → List Pc → List (List (List Nat) × Int)
  | _, [] => []
  | sts, p :: l =>
    let r := runG g order chunk (if p.rest = true then sts.map restN else sts) p.ins p.n
    r.1 :: soundG g order chunk r.2 l

/-! ### the order of the nodes -/

/-- What a node asks for ahead of itself. -/
def asks (g : Gd) (i : Nat) : List Nat :=
  match g.nodes[i]? with
  | some x => if x.kind = 6 then [] else x.from_.map Int.toNat
  | none => []
def isD (g : Gd) (i : Nat) : Bool :=
  match g.nodes[i]? with
  | some x => decide (x.kind = 6)
  | none => false

/-- Where the search stands: 0 not yet, 1 open, 2 done; the order so far. -/
structure Sr where
  st : List Nat
  order : List Nat

/-- The search, of one node (inl) or of a list of them: did it go well, and where it stands behind. -/
inductive Vis (g : Gd) : Sr → Nat ⊕ List Nat → Bool → Sr → Prop
  | seen {s : Sr} {i : Nat} : 0 < s.st.getD i 0 → Vis g s (.inl i) (s.st.getD i 0 == 2) s
  | ok {s s2 : Sr} {i : Nat} : s.st.getD i 0 = 0 → i < s.st.length → Vis g ⟨s.st.set i 1, s.order⟩ (.inr (asks g i)) true s2 → Vis g s (.inl i) true ⟨s2.st.set i 2, if isD g i = true then s2.order else s2.order ++ [i]⟩
  | bad {s s2 : Sr} {i : Nat} : s.st.getD i 0 = 0 → i < s.st.length → Vis g ⟨s.st.set i 1, s.order⟩ (.inr (asks g i)) false s2 → Vis g s (.inl i) false s2
  | nil {s : Sr} : Vis g s (.inr []) true s
  | cons {s s1 s2 : Sr} {k : Nat} {l : List Nat} {b : Bool} : Vis g s (.inl k) true s1 → Vis g s1 (.inr l) b s2 → Vis g s (.inr (k :: l)) b s2
  | stop {s s1 : Sr} {k : Nat} {l : List Nat} : Vis g s (.inl k) false s1 → Vis g s (.inr (k :: l)) false s1
end Go.Proofs.Ytdliilmnfbgplaa.GMod

/- The order of the nodes: what the search comes to; plain. -/
namespace Go.Proofs.Ytdliilmnfbgplaa.GOrd
open Go Go.Proofs.Ytdliilmnfbgplaa.GMod
set_option linter.unusedVariables false

theorem getD_set (l : List Nat) (i j x : Nat) : (l.set i x).getD j 0 = if i = j ∧ i < l.length then x else l.getD j 0 := by
  rw [List.getD_eq_getElem?_getD, List.getD_eq_getElem?_getD, List.getElem?_set]
  by_cases h : i = j
  · subst h
    by_cases h2 : i < l.length
    · simp [h2]
    · simp [h2]
  · rw [if_neg h, if_neg (fun hh => h hh.1)]

/-- One asks for the other. -/
def Edge (g : Gd) (i k : Nat) : Prop := k ∈ asks g i
/-- .. by way of others. -/
inductive Path (g : Gd) : Nat → Nat → Prop
  | one {i k : Nat} : Edge g i k → Path g i k
  | more {i k j : Nat} : Edge g i k → Path g k j → Path g i j
theorem Path.trans {g : Gd} {i k j : Nat} (h : Path g i k) (h' : Path g k j) : Path g i j := by
  induction h with
  | one h => exact .more h h'
  | more h _ ih => exact .more h (ih h')
/-- Nothing asks for itself, by whatever way. -/
def Acy (g : Gd) : Prop := ∀ i, ¬ Path g i i

theorem isD_asks {g : Gd} {i : Nat} (h : isD g i = true) : asks g i = [] := by
  unfold isD at h
  unfold asks
  split
  · rename_i x hx
    rw [hx] at h
    simp only at h
    rw [if_pos (by simpa using h)]
  · rfl

/-- What was seen stays as it was. -/
theorem vis_keep {g : Gd} {s s' : Sr} {a : Nat ⊕ List Nat} {b : Bool} (h : Vis g s a b s') : s'.st.length = s.st.length ∧ (∀ j, 0 < s.st.getD j 0 → s'.st.getD j 0 = s.st.getD j 0) ∧ (b = true → ∀ j, s.st.getD j 0 = 0 → s'.st.getD j 0 = 0 ∨ s'.st.getD j 0 = 2) ∧
    (b = true → match a with | .inl i => s'.st.getD i 0 = 2 | .inr l => ∀ k ∈ l, s'.st.getD k 0 = 2) := by
  induction h with
  | @seen s i h =>
    refine ⟨rfl, fun j hj => rfl, fun _ j hj => .inl hj, fun hb => by simpa using hb⟩
  | @ok s s2 i h1 hi h ih =>
    obtain ⟨g1, g2, g3, g4⟩ := ih
    simp only [List.length_set] at g1 g2 g3 g4
    refine ⟨by simp [g1], fun j hj => ?_, fun _ j hj => ?_, fun _ => ?_⟩
    · have hij : i ≠ j := by intro e; subst e; omega
      rw [getD_set, if_neg (fun hh => hij hh.1)]
      have := g2 j (by rw [getD_set, if_neg (fun hh => hij hh.1)]; exact hj)
      rw [this, getD_set, if_neg (fun hh => hij hh.1)]
    · rw [getD_set]
      by_cases hij : i = j
      · subst hij
        right
        rw [if_pos ⟨rfl, by omega⟩]
      · rw [if_neg (fun hh => hij hh.1)]
        exact g3 trivial j (by rw [getD_set, if_neg (fun hh => hij hh.1)]; exact hj)
    · simp only
      rw [getD_set, if_pos ⟨rfl, by omega⟩]
  | @bad s s2 i h1 hi h ih =>
    obtain ⟨g1, g2, _, _⟩ := ih
    simp only [List.length_set] at g1 g2
    refine ⟨g1, fun j hj => ?_, (fun hb => by cases hb), (fun hb => by cases hb)⟩
    have hij : i ≠ j := by intro e; subst e; omega
    have := g2 j (by rw [getD_set, if_neg (fun hh => hij hh.1)]; exact hj)
    rw [this, getD_set, if_neg (fun hh => hij hh.1)]
  | nil => exact ⟨rfl, fun _ _ => rfl, fun _ j hj => .inl hj, fun _ k hk => by cases hk⟩
  | @cons s s1 s2 k l b h1 h2 i1 i2 =>
    obtain ⟨a1, a2, a3, a4⟩ := i1
    obtain ⟨b1, b2, b3, b4⟩ := i2
    refine ⟨b1.trans a1, fun j hj => ?_, fun hb j hj => ?_, fun hb m hm => ?_⟩
    · have := a2 j hj
      rw [b2 j (by omega), this]
    · rcases a3 rfl j hj with h | h
      · exact b3 hb j h
      · right
        rw [b2 j (by omega), h]
    · rcases List.mem_cons.1 hm with rfl | hm
      · have := a4 rfl
        simp only at this
        rw [b2 _ (by omega), this]
      · exact b4 hb m hm
  | @stop s s1 k l h ih =>
    obtain ⟨a1, a2, _, _⟩ := ih
    exact ⟨a1, a2, (fun hb => by cases hb), (fun hb => by cases hb)⟩

/-- What holds of the order: the done ones that do not tell first, each behind what it asks for. -/
structure OrdI (g : Gd) (s : Sr) : Prop where
  mem : ∀ j, j ∈ s.order ↔ (s.st.getD j 0 = 2 ∧ isD g j = false)
  nodup : s.order.Nodup
  pre : ∀ l1 i l2, s.order = l1 ++ i :: l2 → ∀ k, Edge g i k → isD g k = false → k ∈ l1
  small : ∀ j, s.st.getD j 0 ≤ 2

theorem vis_ord {g : Gd} {s s' : Sr} {a : Nat ⊕ List Nat} {b : Bool} (h : Vis g s a b s') (hi : OrdI g s) : b = true → OrdI g s' := by
  induction h with
  | seen h => exact fun _ => hi
  | @ok s s2 i h1 hil h ih =>
    intro _
    have hs1 : OrdI g ⟨s.st.set i 1, s.order⟩ := by
      refine ⟨fun j => ?_, hi.nodup, hi.pre, fun j => ?_⟩
      · simp only
        rw [hi.mem, getD_set]
        by_cases hij : i = j
        · subst hij
          rw [if_pos ⟨rfl, hil⟩]
          omega
        · rw [if_neg (fun hh => hij hh.1)]
      · simp only
        rw [getD_set]
        split
        · omega
        · exact hi.small j
    have h2 := ih hs1 rfl
    obtain ⟨g1, g2, g3, g4⟩ := vis_keep h
    simp only [List.length_set] at g1 g2 g4
    have hi1 : s2.st.getD i 0 = 1 := by
      have := g2 i (by rw [getD_set, if_pos ⟨rfl, hil⟩]; omega)
      rw [this, getD_set, if_pos ⟨rfl, hil⟩]
    have hnot : i ∉ s2.order := fun hm => by have := (h2.mem i).1 hm; omega
    refine ⟨fun j => ?_, ?_, fun l1 x l2 he k hk hd => ?_, fun j => ?_⟩
    · have hgd : (s2.st.set i 2).getD j 0 = if i = j then 2 else s2.st.getD j 0 := by
        rw [getD_set]
        by_cases hij : i = j
        · rw [if_pos ⟨hij, by omega⟩, if_pos hij]
        · rw [if_neg (fun hh => hij hh.1), if_neg hij]
      simp only
      rw [hgd]
      have hm := h2.mem j
      cases hD : isD g i with
      | true =>
        simp only [if_true]
        rw [hm]
        by_cases hij : i = j
        · subst hij
          rw [if_pos rfl, hD]
          simp
        · rw [if_neg hij]
      | false =>
        simp only [Bool.false_eq_true, if_false, List.mem_append, List.mem_singleton]
        rw [hm]
        by_cases hij : i = j
        · subst hij
          rw [if_pos rfl, hD]
          simp
        · rw [if_neg hij]
          constructor
          · rintro (h | h)
            · exact h
            · exact absurd h.symm hij
          · exact fun h => .inl h
    · simp only
      cases hD : isD g i with
      | true => exact h2.nodup
      | false =>
        simp only [Bool.false_eq_true, if_false]
        rw [List.nodup_append]
        exact ⟨h2.nodup, by simp, fun a ha b hb => by simp at hb; subst hb; exact fun e => hnot (e ▸ ha)⟩
    · simp only at he
      cases hD : isD g i with
      | true =>
        rw [hD] at he
        exact h2.pre l1 x l2 he k hk hd
      | false =>
        rw [hD] at he
        simp only [Bool.false_eq_true, if_false] at he
        rcases List.eq_nil_or_concat l2 with rfl | ⟨l3, y, rfl⟩
        · have := List.append_inj' he rfl
          obtain ⟨e1, e2⟩ := this
          simp at e2
          subst e2
          subst e1
          have := g4 trivial k hk
          exact (h2.mem k).2 ⟨this, hd⟩
        · rw [List.concat_eq_append, ← List.cons_append, ← List.append_assoc] at he
          obtain ⟨e1, e2⟩ := List.append_inj' he rfl
          exact h2.pre l1 x l3 e1 k hk hd
    · simp only
      rw [getD_set]
      split
      · exact Nat.le_refl _
      · exact h2.small j
  | bad h1 hil h ih => exact fun hb => by cases hb
  | nil => exact fun _ => hi
  | cons h1 h2 i1 i2 => exact fun hb => i2 (i1 hi rfl) hb
  | stop h ih => exact fun hb => by cases hb

/-- Where it goes wrong something asks for itself. -/
theorem vis_bad {g : Gd} {s s' : Sr} {a : Nat ⊕ List Nat} {b : Bool} (h : Vis g s a b s') (hsm : ∀ j, s.st.getD j 0 ≤ 2) :
    (∀ i, (match a with | .inl k => ∀ j, s.st.getD j 0 = 1 → Path g j k | .inr l => (∀ j, s.st.getD j 0 = 1 → j = i ∨ Path g j i) ∧ ∀ k ∈ l, Edge g i k) → b = false → ∃ j, Path g j j) := by
  induction h with
  | @seen s i h =>
    intro _ hp hb
    simp only at hp
    have h2 : s.st.getD i 0 ≠ 2 := by simpa using hb
    have := hsm i
    exact ⟨i, hp i (by omega)⟩
  | ok => intro _ _ hb; cases hb
  | @bad s s2 i h1 hil h ih =>
    intro _ hp _
    simp only at hp
    refine ih (fun j => ?_) i ⟨fun j hj => ?_, fun k hk => hk⟩ rfl
    · simp only
      rw [getD_set]
      split
      · omega
      · exact hsm j
    · simp only at hj
      rw [getD_set] at hj
      by_cases hij : i = j
      · exact .inl hij.symm
      · rw [if_neg (fun hh => hij hh.1)] at hj
        exact .inr (hp j hj)
  | nil => intro _ _ hb; cases hb
  | @cons s s1 s2 k l b h1 h2 i1 i2 =>
    intro i hp hb
    obtain ⟨hp1, hp2⟩ := hp
    obtain ⟨a1, a2, a3, a4⟩ := vis_keep h1
    have hs1 : ∀ j, s1.st.getD j 0 ≤ 2 := fun j => by
      by_cases hj : s.st.getD j 0 = 0
      · rcases a3 rfl j hj with h | h <;> omega
      · rw [a2 j (by omega)]; exact hsm j
    refine i2 hs1 i ⟨fun j hj => ?_, fun k hk => hp2 k (.tail _ hk)⟩ hb
    by_cases h0 : s.st.getD j 0 = 0
    · rcases a3 rfl j h0 with h | h <;> omega
    · rw [a2 j (by omega)] at hj
      exact hp1 j hj
  | @stop s s1 k l h ih =>
    intro i hp _
    obtain ⟨hp1, hp2⟩ := hp
    refine ih hsm i (fun j hj => ?_) rfl
    rcases hp1 j hj with rfl | hj
    · exact .one (hp2 k (.head _))
    · exact hj.trans (.one (hp2 k (.head _)))

theorem path_end {g : Gd} {i k : Nat} (h : Path g i k) : ∃ m, Edge g i m := by
  cases h with
  | one h => exact ⟨_, h⟩
  | more h _ => exact ⟨_, h⟩
/-- A rank that falls along what is asked for: nothing asks for itself. -/
theorem acy_of_rank {g : Gd} (r : Nat → Nat) (h : ∀ i k, Edge g i k → isD g k = false → r k < r i) : Acy g := by
  have main : ∀ i k, Path g i k → isD g k = false → r k < r i := by
    intro i k hp
    induction hp with
    | one he => exact h _ _ he
    | @more i k j he hp ih =>
      intro hd
      have h1 := ih hd
      have hk : isD g k = false := by
        cases hD : isD g k with
        | false => rfl
        | true =>
          obtain ⟨m, hm⟩ := path_end hp
          unfold Edge at hm
          rw [isD_asks hD] at hm
          cases hm
      have := h _ _ he hk
      omega
  intro i hp
  have hi : isD g i = false := by
    cases hD : isD g i with
    | false => rfl
    | true =>
      obtain ⟨m, hm⟩ := path_end hp
      unfold Edge at hm
      rw [isD_asks hD] at hm
      cases hm
  exact absurd (main i i hp hi) (Nat.lt_irrefl _)

/-- All nodes, one behind the other, from nothing seen. -/
structure Sorted (g : Gd) (order : List Nat) : Prop where
  mem : ∀ j, j ∈ order ↔ (j < g.nodes.length ∧ isD g j = false)
  nodup : order.Nodup
  pre : ∀ l1 i l2, order = l1 ++ i :: l2 → ∀ k, Edge g i k → isD g k = false → k ∈ l1

theorem idx_lt {l : List Nat} (hn : l.Nodup) {l1 l2 : List Nat} {i k : Nat} (he : l = l1 ++ i :: l2) (hk : k ∈ l1) : l.idxOf k < l.idxOf i := by
  subst he
  have hi : i ∉ l1 := fun hm => by
    rw [List.nodup_append] at hn
    exact hn.2.2 i hm i (by simp) rfl
  rw [List.idxOf_append, if_pos hk, List.idxOf_append, if_neg hi]
  have := List.idxOf_lt_length_of_mem hk
  simp
  omega
theorem sorted_acy {g : Gd} {order : List Nat} (h : Sorted g order) : Acy g := by
  refine acy_of_rank (fun i => if i ∈ order then order.idxOf i else order.length) (fun i k he hd => ?_)
  by_cases hi : i ∈ order
  · obtain ⟨l1, l2, e⟩ := List.append_of_mem hi
    have hk := h.pre l1 i l2 e k he hd
    have hk2 : k ∈ order := by rw [e]; exact List.mem_append_left _ hk
    simp only [if_pos hi, if_pos hk2]
    exact idx_lt h.nodup e hk
  · exfalso
    apply hi
    rw [h.mem]
    unfold Edge asks at he
    cases hx : g.nodes[i]? with
    | none => rw [hx] at he; cases he
    | some x =>
      refine ⟨(List.getElem?_eq_some_iff.1 hx).1, ?_⟩
      unfold isD
      rw [hx]
      rw [hx] at he
      simp only at he ⊢
      by_cases hk : x.kind = 6
      · rw [if_pos hk] at he; cases he
      · simp [hk]
end Go.Proofs.Ytdliilmnfbgplaa.GOrd

/- Rows of samples, nodes and what they remember, in memory. -/
namespace Go.Proofs.Ytdliilmnfbgplaa.GMem
open Go Go.RowKit Go.Proofs.Ytdliilmnfbgplaa.Fl Go.Proofs.Ytdliilmnfbgplaa.Fw Go.Proofs.Ytdliilmnfbgplaa.GRd Go.Proofs.Ytdliilmnfbgplaa.GCells Go.Proofs.Ytdliilmnfbgplaa.GStep Go.Proofs.Ytdliilmnfbgplaa.GMod Go.Proofs.Ytdliilmnfbgplaa.Hp Go.Proofs.Ytdliilmnfbgplaa.Rd Go.Proofs.Ytdliilmnfbgplaa.Opn
set_option linter.unusedVariables false
set_option linter.unusedSimpArgs false

def fC (y : Nat) : List Value := [.float .f64 y]
theorem fC_len (y : Nat) : (fC y).length = 1 := rfl
def vC (u : Value) : List Value := [u]
theorem vC_len (u : Value) : (vC u).length = 1 := rfl
theorem flC_f (ys : List Nat) : flC fC ys = ys.map (Value.float .f64) := by
  induction ys with
  | nil => rfl
  | cons y l ih =>
    have : flC fC (y :: l) = fC y ++ flC fC l := rfl
    rw [this, ih]
    rfl
theorem flC_v (us : List Value) : flC vC us = us := by
  induction us with
  | nil => rfl
  | cons y l ih =>
    have : flC vC (y :: l) = vC y ++ flC vC l := rfl
    rw [this, ih]
    rfl

/-- Samples, NaNs as one. -/
def CFl (w : World) (A : Nat → Prop) (v : Value) (l : List Nat) : Prop := ∃ ys : List Nat, SlA 1 fC w A v ys ∧ ys.map cn = l
/-- Rows of these. -/
def CLl (w : World) (A : Nat → Prop) (v : Value) (ls : List (List Nat)) : Prop :=
  ∃ vs : List Value, vs.length = ls.length ∧ SlA 1 vC w A v vs ∧ ∀ (i : Nat) (u : Value) (l : List Nat), vs[i]? = some u → ls[i]? = some l → CFl w A u l

section
variable {w w' : World} {A A' : Nat → Prop} {v : Value}
theorem CFl.fr {X : Nat → Prop} {l : List Nat} (h : CFl w A v l) (hf : Fr X w w') (hA : ∀ b, A b → ¬ X b) : CFl w' A v l := by
  obtain ⟨ys, h1, h2⟩ := h
  exact ⟨ys, h1.fr hf hA, h2⟩
theorem CFl.mono {l : List Nat} (h : CFl w A v l) (hA : ∀ b, A b → A' b) : CFl w A' v l := by
  obtain ⟨ys, h1, h2⟩ := h
  exact ⟨ys, h1.mono hA, h2⟩
theorem CFl.grown {l : List Nat} (h : CFl w A v l) (hg : w.grownBy w' none) : CFl w' A v l := h.fr (.none hg) (X := fun _ => False) (fun _ _ h => h)
theorem CLl.fr {X : Nat → Prop} {ls : List (List Nat)} (h : CLl w A v ls) (hf : Fr X w w') (hA : ∀ b, A b → ¬ X b) : CLl w' A v ls := by
  obtain ⟨vs, h1, h2, h3⟩ := h
  exact ⟨vs, h1, h2.fr hf hA, fun i u l hu hl => (h3 i u l hu hl).fr hf hA⟩
theorem CLl.mono {ls : List (List Nat)} (h : CLl w A v ls) (hA : ∀ b, A b → A' b) : CLl w A' v ls := by
  obtain ⟨vs, h1, h2, h3⟩ := h
  exact ⟨vs, h1, h2.mono hA, fun i u l hu hl => (h3 i u l hu hl).mono hA⟩
theorem CLl.grown {ls : List (List Nat)} (h : CLl w A v ls) (hg : w.grownBy w' none) : CLl w' A v ls := h.fr (.none hg) (X := fun _ => False) (fun _ _ h => h)
theorem cfl_open {l : List Nat} (h : CFl w A v l) : ∃ ao c, v = .slice ao l.length c := by
  obtain ⟨ys, h1, rfl⟩ := h
  obtain ⟨ao, c, e⟩ := sla_open h1
  exact ⟨ao, c, by rw [e, List.length_map]⟩
theorem cll_open {ls : List (List Nat)} (h : CLl w A v ls) : ∃ ao c, v = .slice ao ls.length c := by
  obtain ⟨vs, h1, h2, _⟩ := h
  obtain ⟨ao, c, e⟩ := sla_open h2
  exact ⟨ao, c, by rw [e, h1]⟩
/-- One of the rows. -/
theorem cll_at {ao : Option Addr} {n c : Nat} {ls : List (List Nat)} (h : CLl w A (.slice ao n c) ls) {i : Nat} {l : List Nat} (hl : ls[i]? = some l) :
    ∃ b off ro rc, ao = some ⟨b, off, none⟩ ∧ A b ∧ w.cell? ⟨b, off + i, none⟩ = some (.slice ro l.length rc) ∧ CFl w A (.slice ro l.length rc) l := by
  obtain ⟨vs, h1, h2, h3⟩ := h
  have hi := (List.getElem?_eq_some_iff.1 hl).1
  obtain ⟨u, hu⟩ : ∃ u, vs[i]? = some u := ⟨vs[i]'(by omega), List.getElem?_eq_getElem _⟩
  obtain ⟨b, off, rfl, hA, hr⟩ := sla_at h2 hu
  have hc := h3 i u l hu hl
  obtain ⟨ro, rc, rfl⟩ := cfl_open hc
  refine ⟨b, off, ro, rc, rfl, hA, ?_, hc⟩
  have := hr 0 _ rfl
  rw [Nat.mul_one] at this
  exact this
/-- One of the samples. -/
theorem cfl_at {ao : Option Addr} {n c : Nat} {l : List Nat} (h : CFl w A (.slice ao n c) l) {i : Nat} {x : Nat} (hx : l[i]? = some x) :
    ∃ b off y, ao = some ⟨b, off, none⟩ ∧ A b ∧ w.cell? ⟨b, off + i, none⟩ = some (.float .f64 y) ∧ cn y = x := by
  obtain ⟨ys, h1, rfl⟩ := h
  rw [List.getElem?_map] at hx
  cases hy : ys[i]? with
  | none => rw [hy] at hx; cases hx
  | some y =>
    rw [hy] at hx
    simp at hx
    obtain ⟨b, off, rfl, hA, hr⟩ := sla_at h1 hy
    refine ⟨b, off, y, rfl, hA, ?_, hx⟩
    have := hr 0 _ rfl
    rw [Nat.mul_one] at this
    exact this
end

/-- A row of samples, whole. -/
def RowF (w : World) (b : Nat) (ys : List Nat) : Prop := w.heap[b]? = some (.cells (ys.map (Value.float .f64)).toArray 46 (0, 0))
theorem RowF.cell {w : World} {b : Nat} {ys : List Nat} (h : RowF w b ys) {i : Nat} {y : Nat} (hy : ys[i]? = some y) : w.cell? ⟨b, i, none⟩ = some (.float .f64 y) := by
  rw [cell_of h]
  simp [hy]
theorem RowF.fr {w w' : World} {X : Nat → Prop} {b : Nat} {ys : List Nat} (h : RowF w b ys) (hf : Fr X w w') (hx : ¬ X b) : RowF w' b ys := hf.row h hx
theorem RowF.set {w : World} {b : Nat} {ys : List Nat} (h : RowF w b ys) (i y : Nat) : RowF (w.setCell ⟨b, i, none⟩ (.float .f64 y)) b (ys.set i y) := by
  unfold RowF at h ⊢
  rw [set_self h, List.setIfInBounds_toArray, List.map_set]
theorem RowF.fl {w : World} {b n : Nat} {ys : List Nat} (h : RowF w b ys) (hn : ys.length = n) {A : Nat → Prop} (hA : A b) (c : Nat) : SlA 1 fC w A (.slice (some ⟨b, 0, none⟩) n c) ys := by
  subst hn
  refine .inl ⟨b, 0, c, hA, rfl, fun i y hy j u hu => ?_⟩
  simp only [fC] at hu
  cases j with
  | zero =>
    simp at hu
    subst hu
    rw [Nat.zero_add, Nat.mul_one, Nat.add_zero]
    exact h.cell hy
  | succ j => simp at hu

/-- A node in memory; its blocks are those of A. -/
def NodeR (w : World) (A : Nat → Prop) (v : Value) : NS → Prop
  | .ent n => v = .iface 92 (.int .i64 (n : Int))
  | .con x => ∃ y, v = .iface 93 (.float .f64 y) ∧ cn y = x
  | .gai x => ∃ y, v = .iface 94 (.float .f64 y) ∧ cn y = x
  | .mix => v = .iface 96 (.agg #[])
  | .tim => v = .iface 97 (.agg #[])
  | .del r a => ∃ db rb ys, A db ∧ A rb ∧ db ≠ rb ∧ v = .iface 98 (.pointer (some ⟨db, 0, none⟩)) ∧ w.heap[db]? = some (.cells #[.slice (some ⟨rb, 0, none⟩) r.length r.length, .int .i64 (a : Int)] 100 (0, 0)) ∧ RowF w rb ys ∧ ys.map cn = r ∧ a < r.length ∧ r.length ≤ 4096
  | .fil c s => ∃ fb, A fb ∧ v = .iface 105 (.agg #[.pointer (some ⟨fb, 0, none⟩)]) ∧ GFRun.FAt w fb c s
  | .sin p s => ∃ sb vb, A sb ∧ A vb ∧ sb ≠ vb ∧ v = .iface 109 (.pointer (some ⟨sb, 0, none⟩)) ∧ w.heap[sb]? = some (.cells #[.int .i64 p.shape, .int .u32 p.step, .float .f64 p.gain, .int .i64 p.att, .int .i64 p.dec, .int .i64 p.rel, .int .i64 p.sus, .pointer (some ⟨vb, 0, none⟩)] 111 (0, 0)) ∧ GVWalk.VAt w vb p s ∧ GVMod.wrongP p = 0 ∧ GVMod.OkS s ∧ p.step < 4294967296

theorem NodeR.fr {w w' : World} {A X : Nat → Prop} {v : Value} {s : NS} (h : NodeR w A v s) (hf : Fr X w w') (hA : ∀ b, A b → ¬ X b) : NodeR w' A v s := by
  cases s with
  | ent n => exact h
  | con x => exact h
  | gai x => exact h
  | mix => exact h
  | tim => exact h
  | del r a =>
    obtain ⟨db, rb, ys, h1, h2, h3, h4, h5, h6, h7⟩ := h
    exact ⟨db, rb, ys, h1, h2, h3, h4, hf.row h5 (hA _ h1), h6.fr hf (hA _ h2), h7⟩
  | fil c s =>
    obtain ⟨fb, h1, h2, q1, q2, q3, q4, h3, h4⟩ := h
    exact ⟨fb, h1, h2, q1, q2, q3, q4, hf.row h3 (hA _ h1), h4⟩
  | sin p s =>
    obtain ⟨sb, vb, h1, h2, h3, h4, h5, h6, h7⟩ := h
    exact ⟨sb, vb, h1, h2, h3, h4, hf.row h5 (hA _ h1), hf.row h6 (hA _ h2), h7⟩
theorem NodeR.mono {w : World} {A A' : Nat → Prop} {v : Value} {s : NS} (h : NodeR w A v s) (hA : ∀ b, b < w.heap.size → A b → A' b) : NodeR w A' v s := by
  cases s with
  | ent n => exact h
  | con x => exact h
  | gai x => exact h
  | mix => exact h
  | tim => exact h
  | del r a =>
    obtain ⟨db, rb, ys, h1, h2, h3, h4, h5, h6, h7⟩ := h
    exact ⟨db, rb, ys, hA _ (lt_of h5) h1, hA _ (lt_of h6) h2, h3, h4, h5, h6, h7⟩
  | fil c s =>
    obtain ⟨fb, h1, h2, q1, q2, q3, q4, h3, h4⟩ := h
    exact ⟨fb, hA _ (lt_of h3) h1, h2, q1, q2, q3, q4, h3, h4⟩
  | sin p s =>
    obtain ⟨sb, vb, h1, h2, h3, h4, h5, h6, h7⟩ := h
    exact ⟨sb, vb, hA _ (lt_of h5) h1, hA _ (lt_of h6) h2, h3, h4, h5, h6, h7⟩

/-- What a node's run leaves: the row ob, what it remembers; nothing else has turned. -/
def RunP (w : World) (A : Nat → Prop) (ob n : Nat) (v : Value) (r : List Nat × NS) (w' : World) : Prop :=
  (∃ ys, RowF w' ob ys ∧ ys.length = n ∧ ys.map cn = r.1) ∧ NodeR w' A v r.2 ∧ Fr (fun b => A b ∨ b = ob) w w'

theorem info46 : (Try.prog.info? 46).map (fun i => (i.zero, i.size, i.bytes)) = some (some (.float .f64 0), 1, 8) := by kernel_rfl

set_option maxRecDepth 100000 in
/-- One row is laid over another one. -/
theorem copy_rows (w : World) (n ob b o c : Nat) (old xs : List Nat) (ho : RowF w ob old) (hol : old.length = n) (hx : SlA 1 fC w AnyB (.slice (some ⟨b, o, none⟩) n c) xs) (hxl : xs.length = n) :
    ∃ w', (∀ ty, (Builtin.copy_ #[38, 38] ty #[.slice (some ⟨ob, 0, none⟩) n n, .slice (some ⟨b, o, none⟩) n c]).run Try.prog w = .ok (goInt (n : Int)) w') ∧ RowF w' ob xs ∧ Fr (fun b => b = ob) w w' := by
  obtain ⟨i0, hi, hz0, hz1, hz2⟩ := info_parts info46
  have hl : (flC fC xs).length = n := by rw [flC_len fC_len, Nat.mul_one, hxl]
  obtain ⟨cur', h1, h2, h3, h4⟩ := setCells_row ob 46 (flC fC xs) 0 w _ ho (by rw [hl]; simp [hol])
  refine ⟨_, fun ty => run_copyN w 38 38 ty 46 i0 ob 0 n n ⟨b, o, none⟩ n c n (flC fC xs) Try.underlying38 hi (by simp) (by rw [hz1, hl, Nat.mul_one]) (fun j u hu => ?_) (fun j hj => ?_) (fun j hj => free_of ho _) (fun u hu => ?_), ?_, .of h4 (fun i e => by injection e with e; exact e.symm)⟩
  · rw [Addr.add_lit]
    obtain ⟨b', o', e, h⟩ := news_sl fC_len (by decide) hx j u hu
    injection e with e
    injection e with e1 e2
    subst e1 e2
    exact h
  · rw [cell_of ho, Array.getElem?_eq_getElem (by rw [hl] at hj; simp [hol]; omega)]
    rfl
  · rw [flC_f] at hu
    simp only [List.mem_map] at hu
    obtain ⟨y, _, rfl⟩ := hu
    rfl
  · unfold RowF
    rw [h1]
    congr 2
    apply Array.ext
    · rw [h2]; simp [hol, hxl]
    · intro j hj1 hj2
      have h9 := h3 j
      rw [Array.getElem?_eq_getElem hj1] at h9
      rw [h2] at hj1
      simp [hol] at hj1
      rw [if_pos ⟨Nat.zero_le _, by rw [hl]; omega⟩, Nat.sub_zero, flC_f] at h9
      simp only [List.getElem_toArray]
      rw [List.getElem?_eq_getElem (by rw [List.length_map, hxl]; exact hj1)] at h9
      exact Option.some.inj h9
end Go.Proofs.Ytdliilmnfbgplaa.GMem

/- What the nodes make: the walks. -/
namespace Go.Proofs.Ytdliilmnfbgplaa.GNode
open Go Go.RowKit Go.Proofs.Ytdliilmnfbgplaa.Fl Go.Proofs.Ytdliilmnfbgplaa.Fw Go.Proofs.Ytdliilmnfbgplaa.GRd Go.Proofs.Ytdliilmnfbgplaa.GCells Go.Proofs.Ytdliilmnfbgplaa.GStep Go.Proofs.Ytdliilmnfbgplaa.GMod Go.Proofs.Ytdliilmnfbgplaa.GMem Go.Proofs.Ytdliilmnfbgplaa.Hp Go.Proofs.Ytdliilmnfbgplaa.Rd Go.Proofs.Ytdliilmnfbgplaa.Opn
set_option linter.unusedVariables false
set_option linter.unusedSimpArgs false

/-- What is made lies in ob; nothing else has turned. -/
def Made (w : World) (ob n : Nat) (l : List Nat) (e : Ending) (w' : World) : Prop :=
  e = .returned (.tuple #[]) ∧ Hid (∃ ys, RowF w' ob ys ∧ ys.length = n ∧ ys.map cn = l) ∧ Hid (Fr (fun b => b = ob) w w')

set_option maxHeartbeats 1000000 in
set_option maxRecDepth 100000 in
theorem entry_run (kk : Int) (ia : Option Addr) (m ic ob n : Nat) (ls : List (List Nat)) (l : List Nat) (old : List Nat) (w : World) (hi : CLl w (fun b => b ≠ ob) (.slice ia m ic) ls) (hm : ls.length = m) (h0 : ls[0]? = some l) (hl : l.length = n) (hn : 0 < n) (ho : RowF w ob old) (hol : old.length = n) :
    Calls Try.prog 62 #[.int .i64 kk, .slice ia m ic, .slice (some ⟨ob, 0, none⟩) n n] w fun e w' => Made w ob n l e w' := by
  obtain ⟨b, off, ro, rc, rfl, hA, hc, hr⟩ := cll_at hi h0
  rw [hl] at hc hr
  obtain ⟨xs, hxs, hxc⟩ := hr
  have hxl : xs.length = n := by rw [← hl, ← hxc, List.length_map]
  obtain ⟨b2, o2, rfl⟩ : ∃ b2 o2, ro = some ⟨b2, o2, none⟩ := by
    rcases hxs with ⟨b2, o2, c2, _, e, _⟩ | ⟨_, _, e, h⟩
    · simp only [Value.slice.injEq] at e
      exact ⟨b2, o2, e.1⟩
    · rw [h] at hxl; simp at hxl; omega
  obtain ⟨W, hW, hWr, hWf⟩ := copy_rows w n ob b2 o2 rc old xs ho hol (hxs.mono (fun _ _ => trivial)) hxl
  have hm0 : (0 : Int) < (m : Int) := by have := (List.getElem?_eq_some_iff.1 h0).1; omega
  have HR := Lib.hid hWr
  have HF := Lib.hid hWf
  have HC := Lib.hid hxc
  have HL := Lib.hid hxl
  rw [Nat.add_zero] at hc
  clear hWr hWf hxc hxl hxs hi h0 hl ho hol hA hm
  go_enter Try.func62, Try.ntmps62
  go_wp2_with fail
  go_end0
  exact ⟨rfl, ⟨xs, HR.out, HL.out, HC.out⟩, HF.out⟩

/-- k samples are made; the others are as they were. -/
def Part (w : World) (ob n k : Nat) (l old : List Nat) (wr : World) : Prop :=
  ∃ ys, RowF wr ob (ys ++ old.drop k) ∧ ys.length = k ∧ ys.map cn = l.take k ∧ Fr (fun b => b = ob) w wr
theorem part_start {w : World} {ob n : Nat} {l old : List Nat} (ho : RowF w ob old) : Part w ob n 0 l old w := ⟨[], by simpa using ho, rfl, by simp, Fr.refl _ _⟩
theorem part_next {w wr : World} {ob n k q : Nat} {l old : List Nat} {x y : Nat} (h : Part w ob n k l old wr) (hol : old.length = n) (hk : k < n) (hx : l[k]? = some x) (hy : cn y = x) : Part w ob n (k + 1) l old ((wr.drewN q).setCell ⟨ob, k, none⟩ (.float .f64 y)) := by
  obtain ⟨ys, h1, h2, h3, h4⟩ := h
  refine ⟨ys ++ [y], ?_, by simp [h2], ?_, fr_set (X := fun b => b = ob) (p := ⟨ob, k, none⟩) (fr_drewN h4 q) (.inl rfl) _⟩
  · have h5 : RowF (wr.drewN q) ob (ys ++ old.drop k) := h1
    have := h5.set k y
    have e : (ys ++ old.drop k).set k y = ys ++ [y] ++ old.drop (k + 1) := by
      rw [List.set_append_right _ _ (by omega), h2, Nat.sub_self, List.append_assoc]
      congr 1
      rw [List.drop_eq_getElem_cons (by omega)]
      rfl
    rw [e] at this
    exact this
  · rw [List.map_append, h3, List.take_add_one, hx]
    simp [hy]
theorem part_end {w wr : World} {ob n : Nat} {l old : List Nat} (h : Part w ob n n l old wr) (hol : old.length = n) (hl : l.length = n) : (∃ ys, RowF wr ob ys ∧ ys.length = n ∧ ys.map cn = l) ∧ Fr (fun b => b = ob) w wr := by
  obtain ⟨ys, h1, h2, h3, h4⟩ := h
  rw [List.drop_of_length_le (by omega), List.append_nil] at h1
  rw [List.take_of_length_le (by omega)] at h3
  exact ⟨⟨ys, h1, h2, h3⟩, h4⟩
theorem part_cell {w wr : World} {ob n k : Nat} {l old : List Nat} (h : Part w ob n k l old wr) (hol : old.length = n) (hk : k < n) : (∃ y, old[k]? = some y ∧ wr.cell? ⟨ob, k, none⟩ = some (.float .f64 y)) ∧ wr.frozen? ⟨ob, k, none⟩ = false := by
  obtain ⟨ys, h1, h2, _, _⟩ := h
  refine ⟨⟨old[k]'(by omega), List.getElem?_eq_getElem _, h1.cell ?_⟩, free_of h1 _⟩
  rw [List.getElem?_append_right (by omega), h2, Nat.sub_self, List.getElem?_drop, Nat.add_zero]
  exact List.getElem?_eq_getElem _

set_option maxHeartbeats 1000000 in
set_option maxRecDepth 100000 in
theorem constant_run (x : Nat) (iv : Value) (ob n : Nat) (old : List Nat) (w : World) (hn : n ≤ 65536) (ho : RowF w ob old) (hol : old.length = n) :
    Calls Try.prog 63 #[.float .f64 x, iv, .slice (some ⟨ob, 0, none⟩) n n] w fun e w' => Made w ob n (List.replicate n (cn x)) e w' := by
  have HP0 : Hid (Part w ob n 0 (List.replicate n (cn x)) old w) := part_start ho
  have HOL := Lib.hid hol
  clear ho hol
  go_enter Try.func63, Try.ntmps63
  go_wp2_with fail
  go_loopw [6, 9] (fun v6 v9 wr => ∃ k : Nat, k ≤ n ∧ v9 = .int .i64 (k : Int) ∧ Hid (Part w ob n k (List.replicate n (cn x)) old wr)) (fun _ v9 _ => n - (intOf v9).toNat)
  case atStart => exact ⟨0, Nat.zero_le _, rfl, HP0.out⟩
  case round =>
    obtain ⟨k, hk, rfl, HP⟩ := hrel
    clear HP0
    by_cases hkn : k = n
    · have h2 := hkn.symm
      subst h2
      clear hkn
      go_wp2_with fail
      go_end0
      have h := part_end HP.out HOL.out (by simp)
      exact ⟨rfl, h.1, h.2⟩
    have hkl : (k : Int) < (n : Int) := by omega
    have hkl2 : k < n := by omega
    have hwk : IntKind.i64.wrap ((k : Int) + 1) = (k : Int) + 1 := IntWalk.i64_in _ (by omega)
    obtain ⟨⟨y, _, hc⟩, hf⟩ := part_cell HP.out HOL.out hkl2
    have hnx := part_next (q := 0) (y := x) HP.out HOL.out hkl2 (by rw [List.getElem?_replicate, if_pos hkl2]) rfl
    have HNX := Lib.hid hnx
    clear hnx hkn
    go_wp2_with fail
    refine ⟨?_, by simp [intOf]; omega⟩
    first
      | exact ⟨k + 1, by omega, rfl, HNX.out⟩
      | (repeat apply Exists.intro
         refine ⟨?_, rfl⟩
         exact ⟨k + 1, by omega, rfl, HNX.out⟩)

/-- A row that is listened to: where it lies. -/
theorem row_open {w : World} {A : Nat → Prop} {ro : Option Addr} {n rc : Nat} {l : List Nat} (h : CFl w A (.slice ro n rc) l) (hl : l.length = n) (hn : 0 < n) : ∃ b o, ro = some ⟨b, o, none⟩ ∧ A b := by
  obtain ⟨x, hx⟩ : ∃ x, l[0]? = some x := ⟨l[0]'(by omega), List.getElem?_eq_getElem _⟩
  obtain ⟨b, o, y, rfl, hA, _⟩ := cfl_at h hx
  exact ⟨b, o, rfl, hA⟩

set_option maxHeartbeats 1000000 in
set_option maxRecDepth 100000 in
theorem gain_run (x : Nat) (ia : Option Addr) (m ic ob n : Nat) (ls : List (List Nat)) (l : List Nat) (old : List Nat) (w : World) (hi : CLl w (fun b => b ≠ ob) (.slice ia m ic) ls) (hm : ls.length = m) (h0 : ls[0]? = some l) (hl : l.length = n) (hn : n ≤ 65536) (ho : RowF w ob old) (hol : old.length = n) :
    Calls Try.prog 64 #[.float .f64 x, .slice ia m ic, .slice (some ⟨ob, 0, none⟩) n n] w fun e w' => Made w ob n (l.map (fmul (cn x))) e w' := by
  have HP0 : Hid (Part w ob n 0 (l.map (fmul (cn x))) old w) := part_start ho
  have HOL := Lib.hid hol
  have HL := Lib.hid hl
  obtain ⟨b, off, ro, rc, rfl, hA, hc, hr⟩ := cll_at hi h0
  rw [hl, Nat.add_zero] at hc
  rw [hl] at hr
  have HR := Lib.hid hr
  have hm0 : (0 : Int) < (m : Int) := by have := (List.getElem?_eq_some_iff.1 h0).1; omega
  have hbo : b ≠ ob := hA
  clear ho hol hi h0 hl hr hm hA
  go_enter Try.func64, Try.ntmps64
  go_wp2_with fail
  go_loopw [6, 9] (fun v6 v9 wr => ∃ k : Nat, k ≤ n ∧ v9 = .int .i64 (k : Int) ∧ Hid (Part w ob n k (l.map (fmul (cn x))) old wr)) (fun _ v9 _ => n - (intOf v9).toNat)
  case atStart => exact ⟨0, Nat.zero_le _, rfl, HP0.out⟩
  case round =>
    obtain ⟨k, hk, rfl, HP⟩ := hrel
    clear HP0
    by_cases hkn : k = n
    · have h2 := hkn.symm
      subst h2
      clear hkn
      go_wp2_with fail
      go_end0
      have h := part_end HP.out HOL.out (by rw [List.length_map]; exact HL.out)
      exact ⟨rfl, h.1, h.2⟩
    have hkl : (k : Int) < (n : Int) := by omega
    have hkl2 : k < n := by omega
    have hwk : IntKind.i64.wrap ((k : Int) + 1) = (k : Int) + 1 := IntWalk.i64_in _ (by omega)
    obtain ⟨ys, _, _, _, hfr⟩ := HP.out
    obtain ⟨u, hu⟩ : ∃ u, l[k]? = some u := ⟨l[k]'(by rw [HL.out]; exact hkl2), List.getElem?_eq_getElem _⟩
    obtain ⟨b2, o2, y, rfl, hA2, hy, hyc⟩ := cfl_at HR.out hu
    have hy2 := hfr.cell hy hA2
    have hc2 := hfr.cell hc hbo
    obtain ⟨⟨z, _, hz⟩, hf⟩ := part_cell HP.out HOL.out hkl2
    have HNX : Hid (∀ r q, cn r = fo .mul x y → Part w ob n (k + 1) (l.map (fmul (cn x))) old ((wr.drewN q).setCell ⟨ob, k, none⟩ (.float .f64 r))) := by
      intro r q h
      refine part_next HP.out HOL.out hkl2 (x := fmul (cn x) u) (by rw [List.getElem?_map, hu]; rfl) ?_
      rw [h]
      exact fmul_eq (cn_cn x).symm (by rw [← hyc, cn_cn])
    clear hkn hfr hy hu
    go_wp2_with (refine wpList_farith _ rfl .mul (.inr (.inr rfl)) _ _ _ _ rfl rfl rfl ?_; intro r q hr9)
    refine ⟨?_, by simp [intOf]; omega⟩
    first
      | exact ⟨k + 1, by omega, rfl, HNX.out _ _ hr9⟩
      | (repeat apply Exists.intro
         refine ⟨?_, rfl⟩
         exact ⟨k + 1, by omega, rfl, HNX.out _ _ hr9⟩)

theorem wpM_farith {P : Program} {ops : Array Oper} {C : World → Prop} {B : Nat → Bool} {Q : Act → World → Prop} {k : Nat} {o : Oper} {rest : List Oper} {a : Act} {w : World} (hw : Region.wanted o (yielded ops a.tmps) = true) (hB : B k = true) (op : BinOp) (h : op = .add ∨ op = .sub ∨ op = .mul) (X Y : Operand) (t t' : TypeId) (ho : o.op = .binOp op t X Y t')
    {x y : Nat} (hx : a.eval X = .float .f64 x) (hy : a.eval Y = .float .f64 y) (hk : ∀ r n, cn r = fo op x y → C (w.drewN n) ∧ Mixed.wpM P ops C B Q (k + 1) rest (a.put o.dst (.float .f64 r)) (w.drewN n)) : Mixed.wpM P ops C B Q k (o :: rest) a w := by
  refine Mixed.wpM_big hw hB ?_
  obtain ⟨r, n, hr, hc⟩ := run_exec_farith (P := P) w op h X Y t t' ho hx hy
  unfold Mixed.bigAt
  rw [hr]
  exact hk r n hc

theorem getElem_zip {f : Nat → Nat → Nat} {a b : List Nat} {k x y : Nat} (ha : a[k]? = some x) (hb : b[k]? = some y) : (List.zipWith f a b)[k]? = some (f x y) := by
  rw [List.getElem?_zipWith, ha, hb]

set_option maxHeartbeats 2000000 in
set_option maxRecDepth 100000 in
theorem times_run (ia : Option Addr) (m ic ob n : Nat) (ls : List (List Nat)) (l l2 : List Nat) (old : List Nat) (w : World) (hob : ob < w.heap.size) (hi : CLl w (fun b => b ≠ ob) (.slice ia m ic) ls) (hm : ls.length = m) (h0 : ls[0]? = some l) (h1 : ls[1]? = some l2) (hl : l.length = n) (hl2 : l2.length = n) (hn : n ≤ 65536) (ho : RowF w ob old) (hol : old.length = n) :
    Calls Try.prog 66 #[.agg #[], .slice ia m ic, .slice (some ⟨ob, 0, none⟩) n n] w fun e w' => Made w ob n (List.zipWith fmul l l2) e w' := by
  have HOL := Lib.hid hol
  have HL := Lib.hid hl
  have HL2 := Lib.hid hl2
  have HO := Lib.hid ho
  obtain ⟨b, off, ro, rc, rfl, hA, hc, hr⟩ := cll_at hi h0
  obtain ⟨b', off', ro2, rc2, e, hA', hd, hr2⟩ := cll_at hi h1
  injection e with e
  injection e with e1 e2
  subst e1 e2
  rw [hl, Nat.add_zero] at hc
  rw [hl2] at hd
  rw [hl] at hr
  rw [hl2] at hr2
  have HR := Lib.hid hr
  have HR2 := Lib.hid hr2
  have hm0 : (0 : Int) < (m : Int) := by have := (List.getElem?_eq_some_iff.1 h0).1; omega
  have hm1 : (1 : Int) < (m : Int) := by have := (List.getElem?_eq_some_iff.1 h1).1; omega
  have hbo : b ≠ ob := hA
  clear ho hol hi h0 h1 hl hl2 hr hr2 hm hA hA'
  go_enter Try.func66, Try.ntmps66
  go_upto_region 1 with fail
  obtain ⟨w1, hw1⟩ : ∃ w1, w.alloc (.cells #[] 97) = w1 := ⟨_, rfl⟩
  have HF1 : Hid (Fr (fun b => b = ob) w w1) := by unfold Hid; rw [← hw1]; exact .none (grown_alloc (grown_refl _ _) _)
  have HP0 : Hid (Part w ob n 0 (List.zipWith fmul l l2) old w1) := by
    refine ⟨[], ?_, rfl, by simp, HF1.out⟩
    rw [← hw1]
    have h := row_kept (grown_alloc (grown_refl w none) (.cells #[] 97)) HO.out (by simp)
    simpa [RowF] using h
  simp only [hw1]
  clear hw1 hob
  go_wp2_with fail
  go_loopw [6, 9] (fun v6 v9 wr => ∃ k : Nat, k ≤ n ∧ v9 = .int .i64 (k : Int) ∧ Hid (Part w ob n k (List.zipWith fmul l l2) old wr)) (fun _ v9 _ => n - (intOf v9).toNat)
  case atStart => exact ⟨0, Nat.zero_le _, rfl, HP0.out⟩
  case round =>
    obtain ⟨k, hk, rfl, HP⟩ := hrel
    clear HP0
    by_cases hkn : k = n
    · have h2 := hkn.symm
      subst h2
      clear hkn
      go_wp2_with fail
      go_end0
      have h := part_end HP.out HOL.out (by rw [List.length_zipWith, HL.out, HL2.out]; simp)
      exact ⟨rfl, h.1, h.2⟩
    have hkl : (k : Int) < (n : Int) := by omega
    have hkl2 : k < n := by omega
    have hwk : IntKind.i64.wrap ((k : Int) + 1) = (k : Int) + 1 := IntWalk.i64_in _ (by omega)
    obtain ⟨ys, _, _, _, hfr⟩ := HP.out
    obtain ⟨u, hu⟩ : ∃ u, l[k]? = some u := ⟨l[k]'(by rw [HL.out]; exact hkl2), List.getElem?_eq_getElem _⟩
    obtain ⟨u2, hu2⟩ : ∃ u, l2[k]? = some u := ⟨l2[k]'(by rw [HL2.out]; exact hkl2), List.getElem?_eq_getElem _⟩
    obtain ⟨b2, o2, y, rfl, hA2, hy, hyc⟩ := cfl_at HR.out hu
    obtain ⟨b3, o3, y3, rfl, hA3, hy3, hyc3⟩ := cfl_at HR2.out hu2
    have hy2 := hfr.cell hy hA2
    have hy4 := hfr.cell hy3 hA3
    have hc2 := hfr.cell hc hbo
    have hd2 := hfr.cell hd hbo
    obtain ⟨⟨z, _, hz⟩, hf⟩ := part_cell HP.out HOL.out hkl2
    have HNX : Hid (∀ r q, cn r = fo .mul y y3 → Part w ob n (k + 1) (List.zipWith fmul l l2) old ((wr.drewN q).setCell ⟨ob, k, none⟩ (.float .f64 r))) := by
      intro r q h
      refine part_next HP.out HOL.out hkl2 (x := fmul u u2) (getElem_zip hu hu2) ?_
      rw [h]
      exact fmul_eq (by rw [← hyc, cn_cn]) (by rw [← hyc3, cn_cn])
    clear hkn hfr hy hu hy3 hu2
    have hne := LaterX.nonempty (fun b => b = ob) wr
    have k1 : ∀ n2 : LaterX (fun b => b = ob) wr, n2.w.cell? ⟨b, off, none⟩ = some (.slice (some ⟨b2, o2, none⟩) n rc) := LaterX.cell hc2 hbo
    have k2 : ∀ n2 : LaterX (fun b => b = ob) wr, n2.w.cell? ⟨b, off + 1, none⟩ = some (.slice (some ⟨b3, o3, none⟩) n rc2) := LaterX.cell hd2 hbo
    have k3 : ∀ n2 : LaterX (fun b => b = ob) wr, n2.w.cell? ⟨b2, o2 + k, none⟩ = some (.float .f64 y) := LaterX.cell hy2 hA2
    have k4 : ∀ n2 : LaterX (fun b => b = ob) wr, n2.w.cell? ⟨b3, o3 + k, none⟩ = some (.float .f64 y3) := LaterX.cell hy4 hA3
    go_upto_region 4 with fail
    refine Mixed.wp_region_mixed (lateX (fun b => b = ob) wr) (fun k => k == 14 || k == 16) (by kernel_rfl) (by kernel_rfl) ⟨⟨wr.drew, fr_drewN (Fr.refl _ _) 1⟩, rfl⟩ ?_
    unfold lateX
    refine Mixed.wpM_quiet rfl rfl rfl ?_; intro Kx hKx; go_big_quiet_op; go_big_quiet_on
    refine Mixed.wpM_quiet rfl rfl rfl ?_; intro Kx hKx; go_big_quiet_op; go_big_quiet_on
    refine Mixed.wpM_quiet rfl rfl rfl ?_; intro Kx hKx; go_big_quiet_op; go_big_quiet_on
    refine Mixed.wpM_quiet rfl rfl rfl ?_; intro Kx hKx; go_big_quiet_op; go_big_quiet_on
    refine Mixed.wpM_quiet rfl rfl rfl ?_; intro Kx hKx; go_big_quiet_op; go_big_quiet_on
    refine Mixed.wpM_quiet rfl rfl rfl ?_; intro Kx hKx; go_big_quiet_op; go_big_quiet_on
    refine Mixed.wpM_quiet rfl rfl rfl ?_; intro Kx hKx; go_big_quiet_op; go_big_quiet_on
    refine Mixed.wpM_quiet rfl rfl rfl ?_; intro Kx hKx; go_big_quiet_op; go_big_quiet_on
    refine Mixed.wpM_quiet rfl rfl rfl ?_; intro Kx hKx; go_big_quiet_op; go_big_quiet_on
    refine Mixed.wpM_quiet rfl rfl rfl ?_; intro Kx hKx; go_big_quiet_op; go_big_quiet_on
    refine Mixed.wpM_quiet rfl rfl rfl ?_; intro Kx hKx; go_big_quiet_op; go_big_quiet_on
    refine Mixed.wpM_quiet rfl rfl rfl ?_; intro Kx hKx; go_big_quiet_op; go_big_quiet_on
    refine Mixed.wpM_quiet rfl rfl rfl ?_; intro Kx hKx; go_big_quiet_op; go_big_quiet_on
    refine Mixed.wpM_quiet rfl rfl rfl ?_; intro Kx hKx; go_big_quiet_op; go_big_quiet_on
    refine wpM_farith rfl rfl .mul (.inr (.inr rfl)) _ _ _ _ rfl rfl rfl ?_
    intro r q hr9
    have HR9 := Lib.hid hr9
    refine ⟨⟨⟨wr.drew.drewN q, fr_drewN (fr_drewN (Fr.refl _ _) 1) q⟩, rfl⟩, ?_⟩
    clear hr9
    go_simp
    refine Mixed.wpM_quiet rfl rfl rfl ?_; intro Kx hKx; go_big_quiet_op; go_big_quiet_on
    have hzz : (wr.drew.drewN q).cell? ⟨ob, k, none⟩ = some (.float .f64 z) := hz
    have hff : (wr.drew.drewN q).frozen? ⟨ob, k, none⟩ = false := hf
    refine wpM_store rfl rfl ((wr.drew.drewN q).setCell ⟨ob, k, none⟩ (.float .f64 r)) (by go_simp) ⟨⟨_, fr_set (X := fun b => b = ob) (p := ⟨ob, k, none⟩) (fr_drewN (fr_drewN (Fr.refl _ _) 1) q) (.inl rfl) _⟩, rfl⟩ ?_
    refine Mixed.wpM_nil ?_
    intro nx hnx
    dsimp only [Act.put]
    have hfin := HNX.out r (1 + q) HR9.out
    have HFIN := Lib.hid hfin
    clear nx hnx k1 k2 k3 k4 hne hzz hff hfin
    go_wp2_with fail
    refine ⟨?_, by simp [intOf]; omega⟩
    first
      | exact ⟨k + 1, by omega, rfl, HFIN.out⟩
      | (repeat apply Exists.intro
         refine ⟨?_, rfl⟩
         exact ⟨k + 1, by omega, rfl, HFIN.out⟩)

/-- The sum of the first j rows. -/
def sumN (n j : Nat) (ls : List (List Nat)) (z : List Nat) : List Nat := if j = 0 then z else mixN n (ls.take j)
theorem mix_len (n : Nat) : ∀ (ls : List (List Nat)), (∀ l ∈ ls, l.length = n) → (mixN n ls).length = n
  | [], _ => by simp [mixN]
  | a :: l, h => by
    have main : ∀ (l : List (List Nat)) (a : List Nat), a.length = n → (∀ x ∈ l, x.length = n) → (l.foldl (List.zipWith fadd) a).length = n := by
      intro l
      induction l with
      | nil => intro a ha _; exact ha
      | cons b l ih => intro a ha hl; exact ih _ (by rw [List.length_zipWith, ha, hl b (.head _)]; simp) (fun x hx => hl x (.tail _ hx))
    exact main l a (h a (.head _)) (fun x hx => h x (.tail _ hx))
theorem mix_snoc (n : Nat) (a : List Nat) (ls : List (List Nat)) (b : List Nat) : mixN n ((a :: ls) ++ [b]) = List.zipWith fadd (mixN n (a :: ls)) b := by
  simp [mixN, List.foldl_append]

set_option maxHeartbeats 4000000 in
set_option maxRecDepth 100000 in
theorem mix_run (ia : Option Addr) (m ic ob n : Nat) (ls : List (List Nat)) (w : World) (hob : ob < w.heap.size) (hi : CLl w (fun b => b ≠ ob) (.slice ia m ic) ls) (hm : ls.length = m) (hmb : m ≤ 1099511627776) (hls : ∀ l ∈ ls, l.length = n) (hn : n ≤ 65536) (ho : RowF w ob (List.replicate n 0)) :
    Calls Try.prog 65 #[.agg #[], .slice ia m ic, .slice (some ⟨ob, 0, none⟩) n n] w fun e w' => Made w ob n (mixN n ls) e w' := by
  have HI := Lib.hid hi
  have HM := Lib.hid hm
  have HLS := Lib.hid hls
  have HO := Lib.hid ho
  clear hi hm hls ho
  go_enter Try.func65, Try.ntmps65
  go_upto_region 1 with fail
  obtain ⟨w1, hw1⟩ : ∃ w1, w.alloc (.cells #[] 96) = w1 := ⟨_, rfl⟩
  have HF1 : Hid (Fr (fun b => b = ob) w w1) := by unfold Hid; rw [← hw1]; exact .none (grown_alloc (grown_refl _ _) _)
  have HR1 : Hid (RowF w1 ob (List.replicate n 0)) := by
    unfold Hid
    rw [← hw1]
    have h := row_kept (grown_alloc (grown_refl w none) (.cells #[] 96)) HO.out (by simp)
    simpa [RowF] using h
  simp only [hw1]
  clear hw1 hob
  go_wp2_with fail
  go_loopw [6, 7, 8, 11] (fun v6 v7 v8 v11 wr => ∃ j : Nat, j ≤ m ∧ v11 = .int .i64 (j : Int) ∧ Hid (∃ ys, RowF wr ob ys ∧ ys.length = n ∧ ys.map cn = mixN n (ls.take j)) ∧ Hid (Fr (fun b => b = ob) w wr)) (fun _ _ _ v11 _ => m - (intOf v11).toNat)
  case atStart => exact ⟨0, Nat.zero_le _, rfl, ⟨_, HR1.out, by simp, by simp [mixN, GFNew.cn_zero]⟩, HF1.out⟩
  case round =>
    obtain ⟨j, hj, rfl, HR, HF⟩ := hrel
    obtain ⟨wz, hwz⟩ : ∃ wz : World, wz = wr := ⟨_, rfl⟩
    subst hwz
    clear HR1 HF1
    by_cases hjm : j = m
    · have h2 := hjm.symm
      subst h2
      clear hjm
      have hlt : ls.take m = ls := List.take_of_length_le (by rw [HM.out]; exact Nat.le_refl _)
      rw [hlt] at HR
      clear hlt
      go_wp2_with fail
      go_end0
      exact ⟨rfl, HR.out, HF.out⟩
    have hjl : (j : Int) < (m : Int) := by omega
    have hwj : IntKind.i64.wrap ((j : Int) + 1) = (j : Int) + 1 := IntWalk.i64_in _ (by omega)
    obtain ⟨l, hl⟩ : ∃ l, ls[j]? = some l := ⟨ls[j]'(by rw [HM.out]; omega), List.getElem?_eq_getElem _⟩
    obtain ⟨b, off, ro, rc, rfl, hA, hc, hr⟩ := cll_at HI.out hl
    have hll : l.length = n := HLS.out l (List.mem_of_getElem? hl)
    rw [hll] at hc hr
    have hbo : b ≠ ob := hA
    have hc2 := HF.out.cell hc hbo
    have HRl := Lib.hid (hr.fr HF.out (fun b hb => hb))
    have HL := Lib.hid hll
    have HTK : Hid (ls.take (j + 1) = ls.take j ++ [l]) := by unfold Hid; rw [List.take_add_one, hl]; rfl
    obtain ⟨old, ho, hol, hoc⟩ := HR.out
    have HOL := Lib.hid hol
    have HOC := Lib.hid hoc
    obtain ⟨tgt, htgt⟩ : ∃ tgt, mixN n (ls.take (j + 1)) = tgt := ⟨_, rfl⟩
    have HTG := Lib.hid htgt
    have HTL : Hid (tgt.length = n) := by
      unfold Hid
      rw [← htgt]
      exact mix_len n _ (fun x hx => HLS.out x (List.mem_of_mem_take hx))
    have HP0 : Hid (Part wz ob n 0 tgt old wz) := part_start ho
    clear hl hr hll hA hc ho hol hoc htgt HR
    go_wp2_with fail
    go_loopw [8, 18] (fun v8 v18 wr => ∃ k : Nat, k ≤ n ∧ v18 = .int .i64 (k : Int) ∧ Hid (Part wz ob n k tgt old wr)) (fun _ v18 _ => n - (intOf v18).toNat)
    case atStart => exact ⟨0, Nat.zero_le _, rfl, HP0.out⟩
    case round =>
      obtain ⟨k, hk, rfl, HP⟩ := hrel
      clear HP0
      by_cases hkn : k = n
      · have h2 := hkn.symm
        subst h2
        clear hkn
        have h := part_end HP.out HOL.out HTL.out
        rw [← HTG.out] at h
        have HE := Lib.hid h
        clear h
        go_wp2_with fail
        refine ⟨?_, by simp [intOf]; omega⟩
        first
          | exact ⟨j + 1, by omega, rfl, HE.out.1, HF.out.trans HE.out.2⟩
          | (repeat apply Exists.intro
             refine ⟨?_, rfl⟩
             exact ⟨j + 1, by omega, rfl, HE.out.1, HF.out.trans HE.out.2⟩)
      have hkl : (k : Int) < (n : Int) := by omega
      have hkl2 : k < n := by omega
      have hwk : IntKind.i64.wrap ((k : Int) + 1) = (k : Int) + 1 := IntWalk.i64_in _ (by omega)
      obtain ⟨ys, _, _, _, hfr⟩ := HP.out
      obtain ⟨u, hu⟩ : ∃ u, l[k]? = some u := ⟨l[k]'(by rw [HL.out]; exact hkl2), List.getElem?_eq_getElem _⟩
      obtain ⟨b2, o2, y, rfl, hA2, hy, hyc⟩ := cfl_at HRl.out hu
      have hy2 := hfr.cell hy hA2
      obtain ⟨⟨z, hzo, hz⟩, hf⟩ := part_cell HP.out HOL.out hkl2
      by_cases hj0 : j = 0
      · have HNX : Hid (Part wz ob n (k + 1) tgt old (wr.setCell ⟨ob, k, none⟩ (.float .f64 y))) := by
          have h := part_next (q := 0) (y := y) HP.out HOL.out hkl2 (x := u) ?_ hyc
          · exact h
          · rw [← HTG.out, HTK.out, hj0]
            simpa [mixN] using hu
        have hj0i : (j : Int) = 0 := by omega
        clear hkn hfr hy hu
        subst hj0
        go_wp2_with fail
        refine ⟨?_, by simp [intOf]; omega⟩
        first
          | exact ⟨k + 1, by omega, rfl, HNX.out⟩
          | (repeat apply Exists.intro
             refine ⟨?_, rfl⟩
             exact ⟨k + 1, by omega, rfl, HNX.out⟩)
      have HNX : Hid (∀ r q, cn r = fo .add z y → Part wz ob n (k + 1) tgt old ((wr.drewN q).setCell ⟨ob, k, none⟩ (.float .f64 r))) := by
        intro r q h
        have hzc : (mixN n (ls.take j))[k]? = some (cn z) := by rw [← HOC.out, List.getElem?_map, hzo]; rfl
        refine part_next HP.out HOL.out hkl2 (x := fadd (cn z) u) ?_ ?_
        · rw [← HTG.out, HTK.out]
          obtain ⟨a, t, e⟩ : ∃ a t, ls.take j = a :: t := by
            cases e : ls.take j with
            | nil => have := congrArg List.length e; rw [List.length_take, HM.out] at this; simp at this; omega
            | cons a t => exact ⟨a, t, rfl⟩
          rw [e, mix_snoc, ← e]
          exact getElem_zip hzc hu
        · rw [h]
          exact fadd_eq (cn_cn z).symm (by rw [← hyc, cn_cn])
      have hj0i : ¬ (j : Int) = 0 := by omega
      clear hkn hfr hy hu hzo hj0
      go_upto_region 9 with fail
      have hne := LaterX.nonempty (fun b => b = ob) wr
      have k3 : ∀ n2 : LaterX (fun b => b = ob) wr, n2.w.cell? ⟨b2, o2 + k, none⟩ = some (.float .f64 y) := LaterX.cell hy2 hA2
      refine Mixed.wp_region_mixed (lateX (fun b => b = ob) wr) (fun k => k == 3 || k == 8 || k == 10) (by kernel_rfl) (by kernel_rfl) ⟨⟨wr.drew, fr_drewN (Fr.refl _ _) 1⟩, rfl⟩ ?_
      unfold lateX
      refine Mixed.wpM_quiet rfl rfl rfl ?_; intro Kx hKx; go_big_quiet_op; go_big_quiet_on
      refine Mixed.wpM_quiet rfl rfl rfl ?_; intro Kx hKx; go_big_quiet_op; go_big_quiet_on
      refine Mixed.wpM_quiet rfl rfl rfl ?_; intro Kx hKx; go_big_quiet_op; go_big_quiet_on
      refine Mixed.wpM_make rfl rfl (.float .f64 z) wr.drew (by go_simp) ⟨⟨wr.drew, fr_drewN (Fr.refl _ _) 1⟩, rfl⟩ ?_
      go_simp
      refine Mixed.wpM_quiet rfl rfl rfl ?_; intro Kx hKx; go_big_quiet_op; go_big_quiet_on
      refine Mixed.wpM_quiet rfl rfl rfl ?_; intro Kx hKx; go_big_quiet_op; go_big_quiet_on
      refine Mixed.wpM_quiet rfl rfl rfl ?_; intro Kx hKx; go_big_quiet_op; go_big_quiet_on
      refine Mixed.wpM_quiet rfl rfl rfl ?_; intro Kx hKx; go_big_quiet_op; go_big_quiet_on
      refine wpM_farith rfl rfl .add (.inl rfl) _ _ _ _ rfl rfl rfl ?_
      intro r q hr9
      have HR9 := Lib.hid hr9
      refine ⟨⟨⟨wr.drew.drewN q, fr_drewN (fr_drewN (Fr.refl _ _) 1) q⟩, rfl⟩, ?_⟩
      clear hr9
      go_simp
      refine Mixed.wpM_quiet rfl rfl rfl ?_; intro Kx hKx; go_big_quiet_op; go_big_quiet_on
      have hzz : (wr.drew.drewN q).cell? ⟨ob, k, none⟩ = some (.float .f64 z) := hz
      have hff : (wr.drew.drewN q).frozen? ⟨ob, k, none⟩ = false := hf
      refine wpM_store rfl rfl ((wr.drew.drewN q).setCell ⟨ob, k, none⟩ (.float .f64 r)) (by go_simp) ⟨⟨_, fr_set (X := fun b => b = ob) (p := ⟨ob, k, none⟩) (fr_drewN (fr_drewN (Fr.refl _ _) 1) q) (.inl rfl) _⟩, rfl⟩ ?_
      refine Mixed.wpM_nil ?_
      intro nx hnx
      dsimp only [Act.put]
      have hfin := HNX.out r (1 + q) HR9.out
      have HFIN := Lib.hid hfin
      clear nx hnx k3 hne hzz hff hfin
      go_wp2_with fail
      refine ⟨?_, by simp [intOf]; omega⟩
      first
        | exact ⟨k + 1, by omega, rfl, HFIN.out⟩
        | (repeat apply Exists.intro
           refine ⟨?_, rfl⟩
           exact ⟨k + 1, by omega, rfl, HFIN.out⟩)
end Go.Proofs.Ytdliilmnfbgplaa.GNode

/- What the nodes that remember make: the walks. -/
namespace Go.Proofs.Ytdliilmnfbgplaa.GNode2
open Go Go.RowKit Go.Proofs.Ytdliilmnfbgplaa.Fl Go.Proofs.Ytdliilmnfbgplaa.Fw Go.Proofs.Ytdliilmnfbgplaa.GRd Go.Proofs.Ytdliilmnfbgplaa.GCells Go.Proofs.Ytdliilmnfbgplaa.GStep Go.Proofs.Ytdliilmnfbgplaa.GMod Go.Proofs.Ytdliilmnfbgplaa.GMem Go.Proofs.Ytdliilmnfbgplaa.GNode Go.Proofs.Ytdliilmnfbgplaa.Hp Go.Proofs.Ytdliilmnfbgplaa.Rd Go.Proofs.Ytdliilmnfbgplaa.Opn
set_option linter.unusedVariables false
set_option linter.unusedSimpArgs false

theorem out_cn (c : Co) (s : GFRun.St) (x : Nat) : GFRun.out c s (cn x) = GFRun.out c s x := by
  unfold GFRun.out
  rw [fmul_eq (x := c.b0) (y := cn x) (x' := c.b0) (y' := x) rfl (cn_cn x)]
theorem outs_cn (c : Co) : ∀ (xs : List Nat) (s : GFRun.St), GFRun.outs c s (xs.map cn) = GFRun.outs c s xs ∧ GFRun.fin c s (xs.map cn) = GFRun.fin c s xs
  | [], s => ⟨rfl, rfl⟩
  | x :: l, s => by
    have e : GFRun.nxt c s (cn x) = GFRun.nxt c s x := by unfold GFRun.nxt; rw [out_cn, cn_cn]
    obtain ⟨h1, h2⟩ := outs_cn c l (GFRun.nxt c s x)
    simp only [List.map_cons, GFRun.outs, GFRun.fin]
    rw [out_cn, e, h1, h2]
    exact ⟨rfl, rfl⟩

set_option maxHeartbeats 2000000 in
set_option maxRecDepth 100000 in
theorem strainer_run (fb : Nat) (c : Co) (s : GFRun.St) (ia : Option Addr) (m ic ob n : Nat) (ls : List (List Nat)) (l : List Nat) (old : List Nat) (w : World) (hof : ob ≠ fb) (hi : CLl w (fun b => b ≠ ob ∧ b ≠ fb) (.slice ia m ic) ls) (hm : ls.length = m) (h0 : ls[0]? = some l) (hl : l.length = n) (hn0 : 0 < n) (hn : n ≤ 65536) (ho : RowF w ob old) (hol : old.length = n) (hf : GFRun.FAt w fb c s) :
    Calls Try.prog 74 #[.agg #[.pointer (some ⟨fb, 0, none⟩)], .slice ia m ic, .slice (some ⟨ob, 0, none⟩) n n] w fun e w' => e = .returned (.tuple #[]) ∧ Hid (∃ ys, RowF w' ob ys ∧ ys.length = n ∧ ys.map cn = GFRun.outs c s l) ∧ Hid (GFRun.FAt w' fb c (GFRun.fin c s l)) ∧ Hid (Fr (fun b => b = fb ∨ b = ob) w w') := by
  obtain ⟨b, off, ro, rc, rfl, hA, hc, hr⟩ := cll_at hi h0
  rw [hl, Nat.add_zero] at hc
  rw [hl] at hr
  obtain ⟨b2, o2, rfl, hA2⟩ := row_open hr hl hn0
  obtain ⟨xs, hxs, hxc⟩ := hr
  have hxl : xs.length = n := by rw [← hl, ← hxc, List.length_map]
  have hm0 : (0 : Int) < (m : Int) := by have := (List.getElem?_eq_some_iff.1 h0).1; omega
  obtain ⟨hbo, hbf⟩ := hA
  obtain ⟨h2o, h2f⟩ := hA2
  obtain ⟨q1, q2, q3, q4, hfb, hqs⟩ := hf
  have hfl := lt_of hfb
  have hoc := outs_cn c xs s
  rw [hxc] at hoc
  have HOC := Lib.hid hoc
  have hx2 : ∀ (w' : World), (∀ p v, w.cell? p = some v → w'.cell? p = some v) → ∀ i x, xs[i]? = some x → w'.cell? ⟨b2, o2 + i, none⟩ = some (.float .f64 x) := by
    intro w' hk i x hx
    obtain ⟨b', o', e, _, hg⟩ := sla_at hxs hx
    injection e with e
    injection e with e1 e2
    subst e1 e2
    have := hg 0 _ rfl
    rw [Nat.mul_one] at this
    exact hk _ _ this
  have FC : Hid (∀ w', w.grownBy w' none → Calls Try.prog 75 #[.pointer (some ⟨fb, 0, none⟩), .slice (some ⟨b2, o2, none⟩) n rc] w' fun e w2 => GFRun.Ran w' fb c s xs e w2) := by
    intro w' hg
    have h := GFRun.run_walk fb b2 o2 n rc c q1 q2 q3 q4 xs w' hxl (by omega) (row_kept hg hfb (by simp)) (hx2 w' (fun p v hp => grown_cell hg hp (by simp))) h2f (Nat.lt_of_lt_of_le hfl hg.size)
    rw [hqs] at h
    exact h
  have HO := Lib.hid ho
  have HOL := Lib.hid hol
  have HXL := Lib.hid hxl
  obtain ⟨eb, heb⟩ : ∃ eb, w.heap.size = eb := ⟨_, rfl⟩
  have HEB := Lib.hid heb
  have hof2 : ob < w.heap.size := lt_of ho
  clear hi h0 hm hl ho hol hxs hxc hxl hfb hqs hoc hx2 heb
  go_enter Try.func74, Try.ntmps74
  go_upto_region 1 with fail
  simp only [HEB.out]
  obtain ⟨w1, hw1⟩ : ∃ w1, w.alloc (.cells #[.pointer (some ⟨fb, 0, none⟩)] 105) = w1 := ⟨_, rfl⟩
  have HG1 : Hid (w.grownBy w1 none) := by unfold Hid; rw [← hw1]; exact grown_alloc (grown_refl _ _) _
  have HE1 : Hid (w1.heap[eb]? = some (.cells #[.pointer (some ⟨fb, 0, none⟩)] 105 (0, 0))) := by unfold Hid; rw [← hw1, ← HEB.out]; exact heap_alloc_new _ _
  simp only [hw1]
  have HFL : Hid (fb < w1.heap.size) := Nat.lt_of_lt_of_le hfl HG1.out.size
  have hebf : eb ≠ fb := by have := HEB.out; unfold Hid at this; omega
  have hebo : eb ≠ ob := by have := HEB.out; unfold Hid at this; omega
  clear hw1 hfl hof2
  have hne := LaterX.nonempty (fun b => b = fb ∨ b = ob) w1
  have k1 : ∀ n2 : LaterX (fun b => b = fb ∨ b = ob) w1, n2.w.cell? ⟨eb, 0, none⟩ = some (.pointer (some ⟨fb, 0, none⟩)) := LaterX.cell (cell_of HE1.out 0) (by rintro (h | h); exact hebf h; exact hebo h)
  have k2 : ∀ n2 : LaterX (fun b => b = fb ∨ b = ob) w1, n2.w.cell? ⟨b, off, none⟩ = some (.slice (some ⟨b2, o2, none⟩) n rc) := LaterX.cell (grown_cell HG1.out hc (by simp)) (by rintro (h | h); exact hbf h; exact hbo h)
  refine Mixed.wp_region_mixed (lateX (fun b => b = fb ∨ b = ob) w1) (fun k => k == 6 || k == 7) (by kernel_rfl) (by kernel_rfl) ⟨⟨w1.drew, fr_drewN (Fr.refl _ _) 1⟩, rfl⟩ ?_
  unfold lateX
  refine Mixed.wpM_quiet rfl rfl rfl ?_; intro Kx hKx; go_big_quiet_op; go_big_quiet_on
  refine Mixed.wpM_quiet rfl rfl rfl ?_; intro Kx hKx; go_big_quiet_op; go_big_quiet_on
  refine Mixed.wpM_quiet rfl rfl rfl ?_; intro Kx hKx; go_big_quiet_op; go_big_quiet_on
  refine Mixed.wpM_quiet rfl rfl rfl ?_; intro Kx hKx; go_big_quiet_op; go_big_quiet_on
  refine Mixed.wpM_quiet rfl rfl rfl ?_; intro Kx hKx; go_big_quiet_op; go_big_quiet_on
  refine Mixed.wpM_quiet rfl rfl rfl ?_; intro Kx hKx; go_big_quiet_op; go_big_quiet_on
  refine Mixed.wpM_call rfl rfl 75 _ (by go_simp; rfl) ?_
  refine (FC.out _ (grown_drew HG1.out)).mono ?_
  rintro ez w2 ⟨g, ys, rfl, hgs, hgr, hyc, hfa, hgg⟩
  rw [HXL.out]
  have HF2 : Hid (Fr (fun b => b = fb ∨ b = ob) w1 w2) := (fr_drewN (Fr.refl _ w1) 1).trans (.of hgg (fun i e => .inl (by injection e with e; exact e.symm)))
  refine ⟨_, rfl, ⟨⟨w2, HF2.out⟩, rfl⟩, ?_⟩
  have hgl : w1.heap.size ≤ g := hgs
  have hol1 : ob < w1.heap.size := lt_of (row_kept HG1.out HO.out (by simp))
  have hgo : g ≠ ob := by omega
  have hgf : g ≠ fb := by
    have h1 := HEB.out
    have h2 := lt_of HE1.out
    intro e
    obtain ⟨_, _, _, _, hz, _⟩ := hfa
    have h3 := lt_of hz
    have h4 : fb < w1.heap.size := HFL.out
    omega
  have hyl : ys.length = n := by
    have := congrArg List.length hyc
    rw [List.length_map, GFRun.outs_length, HXL.out] at this
    exact this
  have ho2 : RowF w2 ob old := hgg.block ob hol1 (by intro e; injection e with e; exact hof e) |>.trans (row_kept HG1.out HO.out (by simp))
  obtain ⟨W, hW, hWr, hWf⟩ := copy_rows w2 n ob g 0 n old ys ho2 HOL.out (RowF.fl (w := w2) (b := g) hgr hyl (A := AnyB) trivial n) hyl
  have HWR := Lib.hid hWr
  have HWF := Lib.hid hWf
  have HYC := Lib.hid hyc
  have HYL := Lib.hid hyl
  have HFA := Lib.hid hfa
  clear hgr hyc hfa hgg ho2 hWr hWf hyl
  go_simp
  refine Mixed.wpM_make rfl rfl (.int .i64 (n : Int)) W (by go_simp) ⟨⟨W, HF2.out.trans (HWF.out.mono (fun b hb => .inr hb))⟩, rfl⟩ ?_
  go_simp
  refine Mixed.wpM_nil ?_
  intro nx hnx
  clear nx hnx k1 k2 hne hW
  go_wp2_with fail
  go_end0
  refine ⟨rfl, ⟨ys, HWR.out, HYL.out, by rw [HYC.out, HOC.out.1]⟩, ?_, (Fr.none HG1.out).trans (HF2.out.trans (HWF.out.mono (fun b hb => .inr hb)))⟩
  unfold Hid
  rw [HOC.out.2]
  obtain ⟨q1, q2, q3, q4, h1, h2⟩ := HFA.out
  exact ⟨q1, q2, q3, q4, HWF.out.row h1 (fun e => hof e.symm), h2⟩

theorem play_map (p : Pt) (n : Nat) (s : GVMod.St) : (GVMod.play p n s).1.length = n := GVMod.play_len p n s

set_option maxHeartbeats 2000000 in
set_option maxRecDepth 100000 in
theorem singer_run (sb vb : Nat) (p : Pt) (s : GVMod.St) (iv : Value) (ob n : Nat) (old : List Nat) (w : World) (hos : ob ≠ sb) (hov : ob ≠ vb) (hn0 : 0 < n) (hn : n ≤ 65536) (ho : RowF w ob old) (hol : old.length = n)
    (hs : w.heap[sb]? = some (.cells #[.int .i64 p.shape, .int .u32 p.step, .float .f64 p.gain, .int .i64 p.att, .int .i64 p.dec, .int .i64 p.rel, .int .i64 p.sus, .pointer (some ⟨vb, 0, none⟩)] 111 (0, 0))) (hv : GVWalk.VAt w vb p s) (hp : GVMod.OkP p) (hks : GVMod.OkS s) (hst : p.step < 4294967296) :
    Calls Try.prog 78 #[.pointer (some ⟨sb, 0, none⟩), iv, .slice (some ⟨ob, 0, none⟩) n n] w fun e w' => e = .returned (.tuple #[]) ∧ Hid (∃ ys, RowF w' ob ys ∧ ys.length = n ∧ ys.map cn = (GVMod.play p n s).1.map cn) ∧ Hid (GVWalk.VAt w' vb p (GVMod.after p n s)) ∧ Hid (Fr (fun b => b = vb ∨ b = ob) w w') := by
  have RC := Lib.hid (GVRender.render_calls vb p s n w hv hp hks hst hn)
  have c7 : w.cell? ⟨sb, 7, none⟩ = some (.pointer (some ⟨vb, 0, none⟩)) := cell_of hs 7
  have HO := Lib.hid ho
  have HOL := Lib.hid hol
  have hol1 : ob < w.heap.size := lt_of ho
  clear hs hv hp hks ho hol
  go_enter Try.func78, Try.ntmps78
  go_upto_region 1 with (go_at_call 79; refine (RC.out).mono ?_; rintro ez w2 ⟨v, rfl, hown, hva, hgg, hvb⟩)
  obtain ⟨g, rfl, hg⟩ := hown.out
  have hyl : (GVMod.play p n s).1.length = n := play_map p n s
  have hgs : w.heap.size ≤ g := hvb.out g rfl
  have hgo : g ≠ ob := by omega
  simp only [List.length_map, hyl]
  have ho2 : RowF w2 ob old := row_kept hgg.out HO.out (by intro e; injection e with e; exact hov e)
  obtain ⟨W, hW, hWr, hWf⟩ := copy_rows w2 n ob g 0 n old (GVMod.play p n s).1 ho2 HOL.out (RowF.fl (w := w2) (b := g) (ys := (GVMod.play p n s).1) hg hyl (A := AnyB) trivial n) hyl
  have HWR := Lib.hid hWr
  have HWF := Lib.hid hWf
  have HVA := Lib.hid hva.out
  have HGG := Lib.hid hgg.out
  have HYL := Lib.hid hyl
  clear hown hg hva hgg hvb ho2 hWr hWf hyl hgs c7
  go_wp2_with fail
  go_end0
  exact ⟨rfl, ⟨_, HWR.out, HYL.out, rfl⟩, HWF.out.row HVA.out (fun e => hov e.symm), (Fr.of HGG.out (fun i e => .inl (by injection e with e; exact e.symm))).trans (HWF.out.mono (fun b hb => .inr hb))⟩

/-- A delay in memory. -/
def DelR (w : World) (db rb : Nat) (ys : List Nat) (a : Nat) : Prop :=
  w.heap[db]? = some (.cells #[.slice (some ⟨rb, 0, none⟩) ys.length ys.length, .int .i64 (a : Int)] 100 (0, 0)) ∧ RowF w rb ys

set_option maxHeartbeats 1000000 in
theorem long_calls (db rb : Nat) (ys : List Nat) (a : Nat) (w : World) (h : DelR w db rb ys a) :
    Calls Try.prog 68 #[.pointer (some ⟨db, 0, none⟩)] w fun e w' => e = .returned (.int .i64 (ys.length : Int)) ∧ w' = w := by
  obtain ⟨n, hn⟩ : ∃ n, ys.length = n := ⟨_, rfl⟩
  have c0 := cell_of h.1 0
  rw [hn] at c0 ⊢
  clear h hn
  go_enter Try.func68, Try.ntmps68
  go_wp2_with fail
  go_ret
  exact ⟨rfl, rfl⟩

theorem tell_get (ring : List Nat) (a n k : Nat) (hk : k < n) : (tellN ring a n)[k]? = some (ring.getD ((a + k) % ring.length) 0) := by
  unfold tellN
  rw [List.getElem?_map, List.getElem?_range hk]
  rfl

set_option maxHeartbeats 2000000 in
set_option maxRecDepth 100000 in
theorem tell_calls (db rb : Nat) (ys : List Nat) (a ob n : Nat) (old : List Nat) (w : World) (h : DelR w db rb ys a) (hy0 : 0 < ys.length) (hy4 : ys.length ≤ 4096) (ha : a < ys.length) (hod : ob ≠ db) (hor : ob ≠ rb) (hn : n ≤ 65536) (ho : RowF w ob old) (hol : old.length = n) :
    Calls Try.prog 71 #[.pointer (some ⟨db, 0, none⟩), .slice (some ⟨ob, 0, none⟩) n n] w fun e w' => Made w ob n (tellN (ys.map cn) a n) e w' := by
  have HP0 : Hid (Part w ob n 0 (tellN (ys.map cn) a n) old w) := part_start ho
  have HOL := Lib.hid hol
  obtain ⟨N, hN⟩ : ∃ N, ys.length = N := ⟨_, rfl⟩
  have c0 := cell_of h.1 0
  have c1 := cell_of h.1 1
  have HR := Lib.hid h.2
  have HN := Lib.hid hN
  rw [hN] at c0 hy0 hy4 ha
  clear h ho hol hN
  go_enter Try.func71, Try.ntmps71
  go_wp2_with fail
  go_loopw [4, 7] (fun v4 v7 wr => ∃ k : Nat, k ≤ n ∧ v7 = .int .i64 (k : Int) ∧ Hid (Part w ob n k (tellN (ys.map cn) a n) old wr)) (fun _ v7 _ => n - (intOf v7).toNat)
  case atStart => exact ⟨0, Nat.zero_le _, rfl, HP0.out⟩
  case round =>
    obtain ⟨k, hk, rfl, HP⟩ := hrel
    clear HP0
    by_cases hkn : k = n
    · have h2 := hkn.symm
      subst h2
      clear hkn
      go_wp2_with fail
      go_end0
      have h := part_end HP.out HOL.out (by simp [tellN])
      exact ⟨rfl, h.1, h.2⟩
    have hkl : (k : Int) < (n : Int) := by omega
    have hkl2 : k < n := by omega
    have hwk : IntKind.i64.wrap ((k : Int) + 1) = (k : Int) + 1 := IntWalk.i64_in _ (by omega)
    obtain ⟨ak, hak⟩ : ∃ ak, a + k = ak := ⟨_, rfl⟩
    obtain ⟨r, hr⟩ : ∃ r, ak % N = r := ⟨_, rfl⟩
    have hrN : r < N := by rw [← hr]; exact Nat.mod_lt _ hy0
    have hwa : IntKind.i64.wrap ((a : Int) + (k : Int)) = (ak : Int) := by rw [IntWalk.i64_in _ (by omega)]; omega
    have hmod : (ak : Int).tmod (N : Int) = (r : Int) := by rw [← hr]; rfl
    have hri : (r : Int) < (N : Int) := by omega
    have hN0 : ¬ (N : Int) = 0 := by omega
    have hN00 : ¬ N = 0 := by omega
    have hNm : ¬ (N : Int) = -1 := by omega
    obtain ⟨ys2, _, _, _, hfr⟩ := HP.out
    obtain ⟨y, hy⟩ : ∃ y, ys[r]? = some y := ⟨ys[r]'(by rw [HN.out]; exact hrN), List.getElem?_eq_getElem _⟩
    have hry := HR.out.cell hy
    have c0r := hfr.cell c0 (by exact fun e => hod e.symm)
    have c1r := hfr.cell c1 (by exact fun e => hod e.symm)
    have hrr := hfr.cell hry (by exact fun e => hor e.symm)
    obtain ⟨⟨z, _, hz⟩, hf⟩ := part_cell HP.out HOL.out hkl2
    have HNX : Hid (∀ q, Part w ob n (k + 1) (tellN (ys.map cn) a n) old ((wr.drewN q).setCell ⟨ob, k, none⟩ (.float .f64 y))) := by
      intro q
      refine part_next HP.out HOL.out hkl2 (x := cn y) ?_ rfl
      rw [tell_get _ _ _ _ hkl2, List.length_map, HN.out, hak, hr, List.getD_eq_getElem?_getD, List.getElem?_map, hy]
      rfl
    clear hkn hfr hy hry hak hr
    have hne := LaterX.nonempty (fun b => b = ob) wr
    have k1 : ∀ n2 : LaterX (fun b => b = ob) wr, n2.w.cell? ⟨db, 0, none⟩ = some (.slice (some ⟨rb, 0, none⟩) N N) := LaterX.cell c0r (by exact fun e => hod e.symm)
    have k2 : ∀ n2 : LaterX (fun b => b = ob) wr, n2.w.cell? ⟨db, 1, none⟩ = some (.int .i64 (a : Int)) := LaterX.cell c1r (by exact fun e => hod e.symm)
    have k3 : ∀ n2 : LaterX (fun b => b = ob) wr, n2.w.cell? ⟨rb, r, none⟩ = some (.float .f64 y) := LaterX.cell hrr (by exact fun e => hor e.symm)
    go_upto_region 3 with fail
    refine Mixed.wp_region_mixed (lateX (fun b => b = ob) wr) (fun k => k == 21) (by kernel_rfl) (by kernel_rfl) ⟨⟨wr.drew, fr_drewN (Fr.refl _ _) 1⟩, rfl⟩ ?_
    unfold lateX
    refine Mixed.wpM_quiet rfl rfl rfl ?_; intro Kx hKx; go_big_quiet_op; go_big_quiet_on
    refine Mixed.wpM_quiet rfl rfl rfl ?_; intro Kx hKx; go_big_quiet_op; go_big_quiet_on
    refine Mixed.wpM_quiet rfl rfl rfl ?_; intro Kx hKx; go_big_quiet_op; go_big_quiet_on
    refine wpM_nc rfl rfl _ ⟨db, 0, none⟩ rfl rfl ?_; go_simp
    refine Mixed.wpM_quiet rfl rfl rfl ?_; intro Kx hKx; go_big_quiet_op; go_big_quiet_on
    refine Mixed.wpM_quiet rfl rfl rfl ?_; intro Kx hKx; go_big_quiet_op; go_big_quiet_on
    refine Mixed.wpM_quiet rfl rfl rfl ?_; intro Kx hKx; go_big_quiet_op; go_big_quiet_on
    refine wpM_nc rfl rfl _ ⟨db, 0, none⟩ rfl rfl ?_; go_simp
    refine Mixed.wpM_quiet rfl rfl rfl ?_; intro Kx hKx; go_big_quiet_op; go_big_quiet_on
    refine Mixed.wpM_quiet rfl rfl rfl ?_; intro Kx hKx; go_big_quiet_op; go_big_quiet_on
    refine Mixed.wpM_quiet rfl rfl rfl ?_; intro Kx hKx; go_big_quiet_op; go_big_quiet_on
    refine Mixed.wpM_quiet rfl rfl rfl ?_; intro Kx hKx; go_big_quiet_op; go_big_quiet_on
    refine Mixed.wpM_quiet rfl rfl rfl ?_; intro Kx hKx; go_big_quiet_op; go_big_quiet_on
    refine wpM_nc rfl rfl _ ⟨db, 0, none⟩ rfl rfl ?_; go_simp
    refine Mixed.wpM_quiet rfl rfl rfl ?_; intro Kx hKx; go_big_quiet_op; go_big_quiet_on
    refine Mixed.wpM_quiet rfl rfl rfl ?_; intro Kx hKx; go_big_quiet_op; go_big_quiet_on
    refine Mixed.wpM_quiet rfl rfl rfl ?_; intro Kx hKx; go_big_quiet_op; go_big_quiet_on
    refine Mixed.wpM_quiet rfl rfl rfl ?_; intro Kx hKx; go_big_quiet_op; go_big_quiet_on
    refine Mixed.wpM_quiet rfl rfl rfl ?_; intro Kx hKx; go_big_quiet_op; go_big_quiet_on
    refine Mixed.wpM_quiet rfl rfl rfl ?_; intro Kx hKx; go_big_quiet_op; go_big_quiet_on
    refine Mixed.wpM_quiet rfl rfl rfl ?_; intro Kx hKx; go_big_quiet_op; go_big_quiet_on
    have hzz : wr.drew.cell? ⟨ob, k, none⟩ = some (.float .f64 z) := hz
    have hff : wr.drew.frozen? ⟨ob, k, none⟩ = false := hf
    refine wpM_store rfl rfl (wr.drew.setCell ⟨ob, k, none⟩ (.float .f64 y)) (by go_simp) ⟨⟨_, fr_set (X := fun b => b = ob) (p := ⟨ob, k, none⟩) (fr_drewN (Fr.refl _ _) 1) (.inl rfl) _⟩, rfl⟩ ?_
    refine Mixed.wpM_nil ?_
    intro nx hnx
    dsimp only [Act.put]
    have HFIN : Hid (Part w ob n (k + 1) (tellN (ys.map cn) a n) old (wr.drew.setCell ⟨ob, k, none⟩ (.float .f64 y))) := HNX.out 1
    clear nx hnx k1 k2 k3 hne hzz hff
    go_wp2_with fail
    refine ⟨?_, by simp [intOf]; omega⟩
    first
      | exact ⟨k + 1, by omega, rfl, HFIN.out⟩
      | (repeat apply Exists.intro
         refine ⟨?_, rfl⟩
         exact ⟨k + 1, by omega, rfl, HFIN.out⟩)

/-- The worlds in which nothing but cells of block db has turned, its first cell as it was. -/
structure Late1 (db : Nat) (v0 : Value) (W : World) where
  w : World
  h : Fr (fun b => b = db) W w
  c : w.cell? ⟨db, 0, none⟩ = some v0
def late1 (db : Nat) (v0 : Value) (W : World) (w' : World) : Prop := ∃ n : Late1 db v0 W, w' = n.w

theorem hear_cons (ring : List Nat) (a x : Nat) (l : List Nat) : hearN ring a (x :: l) = hearN (ring.set a x) ((a + 1) % ring.length) l := rfl

set_option maxHeartbeats 2000000 in
set_option maxRecDepth 100000 in
theorem hear_calls (db rb : Nat) (ys : List Nat) (a : Nat) (ao : Option Addr) (n c : Nat) (l : List Nat) (w : World) (hne0 : db ≠ rb) (h : DelR w db rb ys a) (hy0 : 0 < ys.length) (hy4 : ys.length ≤ 4096) (ha : a < ys.length) (hi : CFl w (fun b => b ≠ db ∧ b ≠ rb) (.slice ao n c) l) (hl : l.length = n) (hn : n ≤ 65536) :
    Calls Try.prog 67 #[.pointer (some ⟨db, 0, none⟩), .slice ao n c] w fun e w' => e = .returned (.tuple #[]) ∧ Hid (∃ zs a2, DelR w' db rb zs a2 ∧ zs.length = ys.length ∧ a2 < zs.length ∧ hearN (ys.map cn) a l = (zs.map cn, a2)) ∧ Hid (Fr (fun b => b = db ∨ b = rb) w w') := by
  obtain ⟨N, hN⟩ : ∃ N, ys.length = N := ⟨_, rfl⟩
  rw [hN] at hy0 hy4 ha ⊢
  have HN := Lib.hid hN
  have HD0 := Lib.hid h
  have HI := Lib.hid hi
  have HL := Lib.hid hl
  clear h hi hl hN
  go_enter Try.func67, Try.ntmps67
  go_wp2_with fail
  go_loopw [5, 8] (fun v5 v8 wr => ∃ (k a2 : Nat) (zs : List Nat), k ≤ n ∧ v8 = .int .i64 (k : Int) ∧ Hid (DelR wr db rb zs a2) ∧ Hid (zs.length = N) ∧ a2 < N ∧ Hid (hearN (ys.map cn) a l = hearN (zs.map cn) a2 (l.drop k)) ∧ Hid (Fr (fun b => b = db ∨ b = rb) w wr)) (fun _ v8 _ => n - (intOf v8).toNat)
  case atStart => exact ⟨0, a, ys, Nat.zero_le _, rfl, HD0.out, HN.out, ha, rfl, Fr.refl _ _⟩
  case round =>
    obtain ⟨k, a2, zs, hk, rfl, HD, HZ, ha2, HH, HF⟩ := hrel
    obtain ⟨wz, hwz⟩ : ∃ wz : World, wz = wr := ⟨_, rfl⟩
    subst hwz
    clear HD0
    by_cases hkn : k = n
    · have h2 := hkn.symm
      subst h2
      clear hkn
      go_wp2_with fail
      go_end0
      refine ⟨rfl, ⟨zs, a2, HD.out, HZ.out, by rw [HZ.out]; exact ha2, ?_⟩, HF.out⟩
      rw [HH.out, List.drop_of_length_le (by rw [HL.out]; exact Nat.le_refl _)]
      rfl
    have hkl : (k : Int) < (n : Int) := by omega
    have hkl2 : k < n := by omega
    have hwk : IntKind.i64.wrap ((k : Int) + 1) = (k : Int) + 1 := IntWalk.i64_in _ (by omega)
    obtain ⟨x, hx⟩ : ∃ x, l[k]? = some x := ⟨l[k]'(by rw [HL.out]; exact hkl2), List.getElem?_eq_getElem _⟩
    obtain ⟨b, off, y, rfl, hA, hy, hyc⟩ := cfl_at HI.out hx
    have hy2 := HF.out.cell hy (by rintro (e | e); exact hA.1 e; exact hA.2 e)
    have HLD : Hid (l.drop k = x :: l.drop (k + 1)) := by
      unfold Hid
      obtain ⟨hh, he⟩ := List.getElem?_eq_some_iff.1 hx
      rw [List.drop_eq_getElem_cons hh, he]
    obtain ⟨hst, hrow⟩ := HD.out
    rw [HZ.out] at hst
    have HST := Lib.hid hst
    have HROW := Lib.hid hrow
    have c0 := cell_of hst 0
    have c1 := cell_of hst 1
    obtain ⟨z, hz⟩ : ∃ z, zs[a2]? = some z := ⟨zs[a2]'(by rw [HZ.out]; exact ha2), List.getElem?_eq_getElem _⟩
    have hzc := hrow.cell hz
    have hzf := free_of hrow a2
    have ha2i : (a2 : Int) < (N : Int) := by omega
    clear hx hy hst hrow hz hkn
    have hne := LaterX.nonempty (fun b => b = rb) wz
    have k1 : ∀ n2 : LaterX (fun b => b = rb) wz, n2.w.cell? ⟨db, 0, none⟩ = some (.slice (some ⟨rb, 0, none⟩) N N) := LaterX.cell c0 hne0
    have k2 : ∀ n2 : LaterX (fun b => b = rb) wz, n2.w.cell? ⟨db, 1, none⟩ = some (.int .i64 (a2 : Int)) := LaterX.cell c1 hne0
    go_upto_region 3 with fail
    refine Mixed.wp_region_mixed (lateX (fun b => b = rb) wz) (fun k => k == 10) (by kernel_rfl) (by kernel_rfl) ⟨⟨wz.drew, fr_drewN (Fr.refl _ _) 1⟩, rfl⟩ ?_
    unfold lateX
    refine Mixed.wpM_quiet rfl rfl rfl ?_; intro Kx hKx; go_big_quiet_op; go_big_quiet_on
    refine wpM_nc rfl rfl _ ⟨db, 0, none⟩ rfl rfl ?_; go_simp
    refine Mixed.wpM_quiet rfl rfl rfl ?_; intro Kx hKx; go_big_quiet_op; go_big_quiet_on
    refine Mixed.wpM_quiet rfl rfl rfl ?_; intro Kx hKx; go_big_quiet_op; go_big_quiet_on
    refine Mixed.wpM_quiet rfl rfl rfl ?_; intro Kx hKx; go_big_quiet_op; go_big_quiet_on
    refine wpM_nc rfl rfl _ ⟨db, 0, none⟩ rfl rfl ?_; go_simp
    refine Mixed.wpM_quiet rfl rfl rfl ?_; intro Kx hKx; go_big_quiet_op; go_big_quiet_on
    refine Mixed.wpM_quiet rfl rfl rfl ?_; intro Kx hKx; go_big_quiet_op; go_big_quiet_on
    refine Mixed.wpM_quiet rfl rfl rfl ?_; intro Kx hKx; go_big_quiet_op; go_big_quiet_on
    refine Mixed.wpM_quiet rfl rfl rfl ?_; intro Kx hKx; go_big_quiet_op; go_big_quiet_on
    have hzz : wz.drew.cell? ⟨rb, a2, none⟩ = some (.float .f64 z) := hzc
    have hff : wz.drew.frozen? ⟨rb, a2, none⟩ = false := hzf
    refine wpM_store rfl rfl (wz.drew.setCell ⟨rb, a2, none⟩ (.float .f64 y)) (by go_simp) ⟨⟨_, fr_set (X := fun b => b = rb) (p := ⟨rb, a2, none⟩) (fr_drewN (Fr.refl _ _) 1) (.inl rfl) _⟩, rfl⟩ ?_
    refine Mixed.wpM_nil ?_
    intro nx hnx
    dsimp only [Act.put]
    clear nx hnx k1 k2 hne hzz hff
    obtain ⟨w1, hw1⟩ : ∃ w1, wz.drew.setCell ⟨rb, a2, none⟩ (.float .f64 y) = w1 := ⟨_, rfl⟩
    have HF1 : Hid (Fr (fun b => b = rb) wz w1) := by unfold Hid; rw [← hw1]; exact fr_set (X := fun b => b = rb) (p := ⟨rb, a2, none⟩) (fr_drewN (Fr.refl _ _) 1) (.inl rfl) _
    have HST1 := Lib.hid (HF1.out.row HST.out hne0)
    have HROW1 : Hid (RowF w1 rb (zs.set a2 y)) := by unfold Hid; rw [← hw1]; exact RowF.set (w := wz.drew) HROW.out a2 y
    simp only [hw1]
    clear hw1 c0 c1 hzc hzf
    obtain ⟨r, hr⟩ : ∃ r, (a2 + 1) % N = r := ⟨_, rfl⟩
    have hrN : r < N := by rw [← hr]; exact Nat.mod_lt _ hy0
    obtain ⟨a3, ha3⟩ : ∃ a3, a2 + 1 = a3 := ⟨_, rfl⟩
    rw [ha3] at hr
    have hwa : IntKind.i64.wrap ((a2 : Int) + 1) = (a3 : Int) := by rw [IntWalk.i64_in _ (by omega)]; omega
    have hmod : (a3 : Int).tmod (N : Int) = (r : Int) := by rw [← hr]; rfl
    have hN0 : ¬ (N : Int) = 0 := by omega
    have hN00 : ¬ N = 0 := by omega
    have hNm : ¬ (N : Int) = -1 := by omega
    have d0 := cell_of HST1.out 0
    have d1 := cell_of HST1.out 1
    have f1 := free_of HST1.out 1
    have HHN : Hid (hearN (ys.map cn) a l = hearN ((zs.set a2 y).map cn) r (l.drop (k + 1))) := by
      unfold Hid
      rw [HH.out, HLD.out, hear_cons, List.length_map, HZ.out, ha3, hr, List.map_set, hyc]
    clear hr ha3
    have hn1 : Nonempty (Late1 db (.slice (some ⟨rb, 0, none⟩) N N) w1) := ⟨⟨w1, Fr.refl _ _, d0⟩⟩
    have k1 : ∀ n2 : Late1 db (.slice (some ⟨rb, 0, none⟩) N N) w1, n2.w.cell? ⟨db, 0, none⟩ = some (.slice (some ⟨rb, 0, none⟩) N N) := fun n2 => n2.c
    go_upto_region 4 with fail
    refine Mixed.wp_region_mixed (late1 db (.slice (some ⟨rb, 0, none⟩) N N) w1) (fun k => k == 4 || k == 14) (by kernel_rfl) (by kernel_rfl) ⟨⟨w1.drew, fr_drewN (Fr.refl _ _) 1, d0⟩, rfl⟩ ?_
    unfold late1
    refine Mixed.wpM_quiet rfl rfl rfl ?_; intro Kx hKx; go_big_quiet_op; go_big_quiet_on
    refine Mixed.wpM_quiet rfl rfl rfl ?_; intro Kx hKx; go_big_quiet_op; go_big_quiet_on
    refine wpM_nc rfl rfl _ ⟨db, 0, none⟩ rfl rfl ?_; go_simp
    refine Mixed.wpM_quiet rfl rfl rfl ?_; intro Kx hKx; go_big_quiet_op; go_big_quiet_on
    have hd1 : w1.drew.cell? ⟨db, 1, none⟩ = some (.int .i64 (a2 : Int)) := d1
    have hff : w1.drew.frozen? ⟨db, 1, none⟩ = false := f1
    refine Mixed.wpM_make rfl rfl (.int .i64 (a2 : Int)) w1.drew (by go_simp) ⟨⟨w1.drew, fr_drewN (Fr.refl _ _) 1, d0⟩, rfl⟩ ?_
    go_simp
    refine Mixed.wpM_quiet rfl rfl rfl ?_; intro Kx hKx; go_big_quiet_op; go_big_quiet_on
    refine Mixed.wpM_quiet rfl rfl rfl ?_; intro Kx hKx; go_big_quiet_op; go_big_quiet_on
    refine wpM_nc rfl rfl _ ⟨db, 0, none⟩ rfl rfl ?_; go_simp
    refine Mixed.wpM_quiet rfl rfl rfl ?_; intro Kx hKx; go_big_quiet_op; go_big_quiet_on
    refine Mixed.wpM_quiet rfl rfl rfl ?_; intro Kx hKx; go_big_quiet_op; go_big_quiet_on
    refine Mixed.wpM_quiet rfl rfl rfl ?_; intro Kx hKx; go_big_quiet_op; go_big_quiet_on
    refine Mixed.wpM_quiet rfl rfl rfl ?_; intro Kx hKx; go_big_quiet_op; go_big_quiet_on
    refine wpM_nc rfl rfl _ ⟨db, 0, none⟩ rfl rfl ?_; go_simp
    refine Mixed.wpM_quiet rfl rfl rfl ?_; intro Kx hKx; go_big_quiet_op; go_big_quiet_on
    have hset : (w1.drew.setCell ⟨db, 1, none⟩ (.int .i64 (r : Int))).heap[db]? = some (.cells #[.slice (some ⟨rb, 0, none⟩) N N, .int .i64 (r : Int)] 100 (0, 0)) := set_self (w := w1.drew) HST1.out _
    refine wpM_store rfl rfl (w1.drew.setCell ⟨db, 1, none⟩ (.int .i64 (r : Int))) (by go_simp) ⟨⟨_, fr_set (X := fun b => b = db) (p := ⟨db, 1, none⟩) (fr_drewN (Fr.refl _ _) 1) (.inl rfl) _, cell_of hset 0⟩, rfl⟩ ?_
    refine Mixed.wpM_nil ?_
    intro nx hnx
    dsimp only [Act.put]
    have HSET := Lib.hid hset
    have HFW : Hid (Fr (fun b => b = db) w1 (w1.drew.setCell ⟨db, 1, none⟩ (.int .i64 (r : Int)))) := fr_set (X := fun b => b = db) (p := ⟨db, 1, none⟩) (fr_drewN (Fr.refl _ _) 1) (.inl rfl) _
    clear nx hnx k1 hn1 hd1 hff d0 d1 f1 hset
    have HDN : Hid (DelR (w1.drew.setCell ⟨db, 1, none⟩ (.int .i64 (r : Int))) db rb (zs.set a2 y) r) := ⟨by rw [List.length_set, HZ.out]; exact HSET.out, HROW1.out.fr HFW.out (fun e => hne0 e.symm)⟩
    have HZN : Hid ((zs.set a2 y).length = N) := by unfold Hid; rw [List.length_set]; exact HZ.out
    have HFN : Hid (Fr (fun b => b = db ∨ b = rb) w (w1.drew.setCell ⟨db, 1, none⟩ (.int .i64 (r : Int)))) := HF.out.trans ((HF1.out.mono (fun b hb => .inr hb)).trans (HFW.out.mono (fun b hb => .inl hb)))
    go_wp2_with fail
    refine ⟨?_, by simp [intOf]; omega⟩
    first
      | exact ⟨k + 1, r, _, by omega, rfl, HDN.out, HZN.out, hrN, HHN.out, HFN.out⟩
      | (repeat apply Exists.intro
         refine ⟨?_, rfl⟩
         exact ⟨k + 1, r, _, by omega, rfl, HDN.out, HZN.out, hrN, HHN.out, HFN.out⟩)
end Go.Proofs.Ytdliilmnfbgplaa.GNode2

/- Nodes brought to rest. -/
namespace Go.Proofs.Ytdliilmnfbgplaa.GNode3
open Go Go.RowKit Go.Proofs.Ytdliilmnfbgplaa.Fl Go.Proofs.Ytdliilmnfbgplaa.Fw Go.Proofs.Ytdliilmnfbgplaa.GRd Go.Proofs.Ytdliilmnfbgplaa.GCells Go.Proofs.Ytdliilmnfbgplaa.GStep Go.Proofs.Ytdliilmnfbgplaa.GMod Go.Proofs.Ytdliilmnfbgplaa.GMem Go.Proofs.Ytdliilmnfbgplaa.GNode Go.Proofs.Ytdliilmnfbgplaa.GNode2 Go.Proofs.Ytdliilmnfbgplaa.Hp Go.Proofs.Ytdliilmnfbgplaa.Rd Go.Proofs.Ytdliilmnfbgplaa.Opn
set_option linter.unusedVariables false
set_option linter.unusedSimpArgs false

theorem zeros46 (n : Nat) : (Builtin.zeroCells (Value.float .f64 0).cells n).toList = (List.replicate n 0).map (Value.float .f64) := by
  have h1 : (Value.float .f64 0).cells = #[Value.float .f64 0] := rfl
  apply List.ext_getElem?
  intro i
  rw [h1, Array.getElem?_toList, List.getElem?_map, List.getElem?_replicate]
  by_cases h : i < n
  · rw [if_pos h]
    simp [Builtin.zeroCells, h, Nat.mod_one]
  · rw [if_neg h]
    simp [Builtin.zeroCells, h, Nat.mod_one]
theorem zero46 (w : World) : (zeroValue 46).run Try.prog w = .ok (.float .f64 0) w := by
  obtain ⟨i0, hi, hz0, hz1, hz2⟩ := info_parts info46
  simp [zeroValue, typeInfo, hi, hz0]

set_option maxRecDepth 100000 in
/-- A row is cleared. -/
theorem clear_rows (w : World) (n rb : Nat) (ys : List Nat) (ho : RowF w rb ys) (hol : ys.length = n) (hn : 0 < n) :
    ∃ w', (∀ ty c, (Builtin.clear_ #[38] ty #[.slice (some ⟨rb, 0, none⟩) n c]).run Try.prog w = .ok (.tuple #[]) w') ∧ RowF w' rb (List.replicate n 0) ∧ Fr (fun b => b = rb) w w' := by
  have hl : (Builtin.zeroCells (Value.float .f64 0).cells n).toList.length = n := by rw [zeros46]; simp
  obtain ⟨cur', h1, h2, h3, h4⟩ := setCells_row rb 46 (Builtin.zeroCells (Value.float .f64 0).cells n).toList 0 w _ ho (by rw [hl]; simp [hol])
  refine ⟨_, fun ty c => run_clearN n w 38 46 ty _ Try.underlying38 zero46 (fun u hu => ?_) rb 0 c hn (fun j hj => ?_) (fun j hj => free_of ho _), ?_, .of h4 (fun i e => by injection e with e; exact e.symm)⟩
  · rw [zeros46] at hu
    simp only [List.mem_map] at hu
    obtain ⟨y, _, rfl⟩ := hu
    rfl
  · rw [hl] at hj
    rw [cell_of ho, Array.getElem?_eq_getElem (by simp [hol]; omega)]
    rfl
  · unfold RowF
    rw [h1]
    congr 2
    apply Array.ext
    · rw [h2]; simp [hol]
    · intro j hj1 hj2
      have h9 := h3 j
      rw [Array.getElem?_eq_getElem hj1] at h9
      rw [h2] at hj1
      simp [hol] at hj1
      rw [if_pos ⟨Nat.zero_le _, by rw [hl]; omega⟩, Nat.sub_zero, zeros46, List.getElem?_eq_getElem (by simpa using hj1)] at h9
      simp only [List.getElem_toArray]
      exact Option.some.inj h9

set_option maxHeartbeats 1000000 in
set_option maxRecDepth 100000 in
theorem delay_rest (db rb : Nat) (ys : List Nat) (a : Nat) (w : World) (h : DelR w db rb ys a) (hne0 : db ≠ rb) (hy0 : 0 < ys.length) :
    Calls Try.prog 69 #[.pointer (some ⟨db, 0, none⟩)] w fun e w' => e = .returned (.tuple #[]) ∧ Hid (DelR w' db rb (List.replicate ys.length 0) 0) ∧ Hid (Fr (fun b => b = db ∨ b = rb) w w') := by
  obtain ⟨N, hN⟩ : ∃ N, ys.length = N := ⟨_, rfl⟩
  have c0 := cell_of h.1 0
  have hst := h.1
  have hrow := h.2
  rw [hN] at c0 hy0 hst ⊢
  obtain ⟨w1, hclr, hr1, hf1⟩ := clear_rows w N rb ys hrow hN hy0
  have hst1 := hf1.row hst hne0
  have c1 := cell_of hst1 1
  have f1 := free_of hst1 1
  have HST := Lib.hid hst1
  have HR1 := Lib.hid hr1
  have HF1 := Lib.hid hf1
  clear h hrow hst hst1 hr1 hf1 hN
  go_enter Try.func69, Try.ntmps69
  go_wp2_with fail
  go_end0
  have hset : (w1.setCell ⟨db, 1, none⟩ (.int .i64 0)).heap[db]? = some (.cells #[.slice (some ⟨rb, 0, none⟩) N N, .int .i64 0] 100 (0, 0)) := set_self (w := w1) HST.out _
  have hfs : Fr (fun b => b = db) w1 (w1.setCell ⟨db, 1, none⟩ (.int .i64 0)) := fr_set (X := fun b => b = db) (p := ⟨db, 1, none⟩) (Fr.refl _ _) (.inl rfl) _
  refine ⟨rfl, ⟨by rw [List.length_replicate]; exact hset, HR1.out.fr hfs (fun e => hne0 e.symm)⟩, (HF1.out.mono (fun b hb => .inr hb)).trans (hfs.mono (fun b hb => .inl hb))⟩

set_option maxHeartbeats 1000000 in
set_option maxRecDepth 100000 in
theorem strainer_rest (fb : Nat) (c : Co) (s : GFRun.St) (w : World) (hf : GFRun.FAt w fb c s) :
    Calls Try.prog 73 #[.agg #[.pointer (some ⟨fb, 0, none⟩)]] w fun e w' => e = .returned (.tuple #[]) ∧ Hid (GFRun.FAt w' fb c GFNew.rest0) ∧ Hid (Fr (fun b => b = fb) w w') := by
  have HF := Lib.hid hf
  clear hf
  go_enter Try.func73, Try.ntmps73
  have FC : Hid (∀ w', w.grownBy w' none → Calls Try.prog 72 #[.pointer (some ⟨fb, 0, none⟩)] w' fun e w2 => GFNew.RestPost w' fb c e w2) := fun w' hg => by
    obtain ⟨q1, q2, q3, q4, hf, hs⟩ := HF.out
    exact GFNew.rest_calls fb c s w' ⟨q1, q2, q3, q4, row_kept hg hf (by simp), hs⟩
  go_upto_region 1 with fail
  obtain ⟨w1, hw1⟩ : ∃ w1, w.alloc (.cells #[.pointer (some ⟨fb, 0, none⟩)] 105) = w1 := ⟨_, rfl⟩
  have HG1 : Hid (w.grownBy w1 none) := by unfold Hid; rw [← hw1]; exact grown_alloc (grown_refl _ _) _
  have HE1 : Hid (w1.heap[w.heap.size]? = some (.cells #[.pointer (some ⟨fb, 0, none⟩)] 105 (0, 0))) := by unfold Hid; rw [← hw1]; exact heap_alloc_new _ _
  have c0 := cell_of HE1.out 0
  simp only [hw1]
  clear hw1
  have FC1 := Lib.hid (FC.out w1 HG1.out)
  go_wp2_with (go_at_call 72; refine (FC1.out).mono ?_; rintro ez w2 ⟨rfl, hfa, hg⟩)
  go_end0
  exact ⟨rfl, hfa, (Fr.none HG1.out).trans (.of hg (fun i e => by injection e with e; exact e.symm))⟩

set_option maxHeartbeats 1000000 in
set_option maxRecDepth 100000 in
theorem singer_rest (sb vb : Nat) (p : Pt) (w : World) (hs : w.heap[sb]? = some (.cells #[.int .i64 p.shape, .int .u32 p.step, .float .f64 p.gain, .int .i64 p.att, .int .i64 p.dec, .int .i64 p.rel, .int .i64 p.sus, .pointer (some ⟨vb, 0, none⟩)] 111 (0, 0))) (hp : GVMod.wrongP p = 0) :
    Calls Try.prog 77 #[.pointer (some ⟨sb, 0, none⟩)] w fun e w' => e = .returned (.tuple #[]) ∧ ∃ vb2, w.heap.size ≤ vb2 ∧ Hid (w'.heap[sb]? = some (.cells #[.int .i64 p.shape, .int .u32 p.step, .float .f64 p.gain, .int .i64 p.att, .int .i64 p.dec, .int .i64 p.rel, .int .i64 p.sus, .pointer (some ⟨vb2, 0, none⟩)] 111 (0, 0))) ∧ Hid (GVWalk.VAt w' vb2 p GVWalk.st0) ∧ Hid (Fr (fun b => b = sb) w w') := by
  have RC := fun w => Lib.hid (GVWalk.new_calls p w)
  have HS := Lib.hid hs
  have c0 := cell_of hs 0
  have c1 := cell_of hs 1
  have c2 := cell_of hs 2
  have c3 := cell_of hs 3
  have c4 := cell_of hs 4
  have c5 := cell_of hs 5
  have c6 := cell_of hs 6
  clear hs
  go_enter Try.func77, Try.ntmps77
  go_wp2_with (go_at_call 35; refine ((RC _).out).mono ?_; rintro ez w2 ⟨hg, ⟨h1, _⟩ | ⟨_, g, hgs, hv, rfl⟩⟩; exact absurd hp h1; have hs2 := row_kept hg.out HS.out (by simp); have HS2 := Lib.hid hs2; have d7 := cell_of hs2 7; have g7 := free_of hs2 7; clear hs2)
  go_end0
  have hset : (w2.setCell ⟨sb, 7, none⟩ (.pointer (some ⟨g, 0, none⟩))).heap[sb]? = some (.cells #[.int .i64 p.shape, .int .u32 p.step, .float .f64 p.gain, .int .i64 p.att, .int .i64 p.dec, .int .i64 p.rel, .int .i64 p.sus, .pointer (some ⟨g, 0, none⟩)] 111 (0, 0)) := set_self (w := w2) HS2.out _
  have hfs : Fr (fun b => b = sb) w2 (w2.setCell ⟨sb, 7, none⟩ (.pointer (some ⟨g, 0, none⟩))) := fr_set (X := fun b => b = sb) (p := ⟨sb, 7, none⟩) (Fr.refl _ _) (.inl rfl) _
  have hsb := lt_of HS.out
  exact ⟨rfl, g, hgs, hset, hfs.row hv (by show g ≠ sb; omega), (Fr.none hg.out).trans hfs⟩
end Go.Proofs.Ytdliilmnfbgplaa.GNode3

/- What a node is told to do, whichever it is. -/
namespace Go.Proofs.Ytdliilmnfbgplaa.GNode4
open Go Go.RowKit Go.Proofs.Ytdliilmnfbgplaa.Fl Go.Proofs.Ytdliilmnfbgplaa.Fw Go.Proofs.Ytdliilmnfbgplaa.GRd Go.Proofs.Ytdliilmnfbgplaa.GCells Go.Proofs.Ytdliilmnfbgplaa.GStep Go.Proofs.Ytdliilmnfbgplaa.GMod Go.Proofs.Ytdliilmnfbgplaa.GMem Go.Proofs.Ytdliilmnfbgplaa.GNode Go.Proofs.Ytdliilmnfbgplaa.GNode2 Go.Proofs.Ytdliilmnfbgplaa.GNode3 Go.Proofs.Ytdliilmnfbgplaa.Hp Go.Proofs.Ytdliilmnfbgplaa.Rd Go.Proofs.Ytdliilmnfbgplaa.Opn
set_option linter.unusedVariables false
set_option linter.unusedSimpArgs false

abbrev mth (T : TypeId) (u : Value) (name : String) (F : FuncId) : Prop := ∀ (k : Nat) (w : World), (method (k + 1) T u name).run Try.prog w = .ok (F, u) w
abbrev entr (F : FuncId) : Prop := ∀ (args : Array Value) (w : World), (callFunc F args).run Try.prog w = .ok (.enter F args) w
theorem en62 : entr 62 := fun a w => by kernel_rfl
theorem en63 : entr 63 := fun a w => by kernel_rfl
theorem en64 : entr 64 := fun a w => by kernel_rfl
theorem en65 : entr 65 := fun a w => by kernel_rfl
theorem en66 : entr 66 := fun a w => by kernel_rfl
theorem en69 : entr 69 := fun a w => by kernel_rfl
theorem en73 : entr 73 := fun a w => by kernel_rfl
theorem en74 : entr 74 := fun a w => by kernel_rfl
theorem en77 : entr 77 := fun a w => by kernel_rfl
theorem en78 : entr 78 := fun a w => by kernel_rfl
theorem run92 (n : Int) : mth 92 (.int .i64 n) "cantus/graph.run" 62 := fun k w => by kernel_rfl
theorem run93 (y : Nat) : mth 93 (.float .f64 y) "cantus/graph.run" 63 := fun k w => by kernel_rfl
theorem run94 (y : Nat) : mth 94 (.float .f64 y) "cantus/graph.run" 64 := fun k w => by kernel_rfl
theorem run96 : mth 96 (.agg #[]) "cantus/graph.run" 65 := fun k w => by kernel_rfl
theorem run97 : mth 97 (.agg #[]) "cantus/graph.run" 66 := fun k w => by kernel_rfl
theorem run105 (a : Addr) : mth 105 (.agg #[.pointer (some a)]) "cantus/graph.run" 74 := fun k w => by kernel_rfl
theorem run109 (a : Addr) : mth 109 (.pointer (some a)) "cantus/graph.run" 78 := fun k w => by kernel_rfl
theorem tell98 (a : Addr) : mth 98 (.pointer (some a)) "cantus/graph.tell" 71 := fun k w => by kernel_rfl
theorem hear98 (a : Addr) : mth 98 (.pointer (some a)) "cantus/graph.hear" 67 := fun k w => by kernel_rfl
theorem long98 (a : Addr) : mth 98 (.pointer (some a)) "cantus/graph.long" 68 := fun k w => by kernel_rfl
theorem rest98 (a : Addr) : mth 98 (.pointer (some a)) "cantus/graph.rest" 69 := fun k w => by kernel_rfl
theorem rest105 (a : Addr) : mth 105 (.agg #[.pointer (some a)]) "cantus/graph.rest" 73 := fun k w => by kernel_rfl
theorem rest109 (a : Addr) : mth 109 (.pointer (some a)) "cantus/graph.rest" 77 := fun k w => by kernel_rfl

abbrev tas (x : TypeId) (T : TypeId) (u : Value) (b : Bool) : Prop := ∀ w : World, (Instr.typeAssert (.iface T u) 71 x true).run Try.prog w = .ok (.tuple #[if b = true then .iface T u else .nilIface, .bool b]) w
theorem least_some (l : List String) (h : l ≠ []) : ∃ m, Instr.least l = some m := by
  cases l with
  | nil => exact absurd rfl h
  | cons a l => exact ⟨_, rfl⟩
theorem missing_some (want : Array (String × TypeId)) (got : Array Method) (h : (want.toList.filter fun x => !got.any fun m => m.name == x.1 && m.sig == x.2).isEmpty = false) : ∃ m, Instr.missingMethod want got = some m := by
  unfold Instr.missingMethod
  obtain ⟨l, hl⟩ : ∃ l, (want.toList.filter fun x => !got.any fun m => m.name == x.1 && m.sig == x.2) = l := ⟨_, rfl⟩
  have hl2 : (want.toList.filter fun (name, sig) => !got.any fun m => m.name == name && m.sig == sig) = l := hl
  rw [hl] at h
  simp only [hl2]
  cases l with
  | nil => cases h
  | cons a l =>
    simp only [List.partition_eq_filter_filter, List.map_cons]
    by_cases hx : (List.filter (not ∘ fun x : String => x.contains '.') (a.1 :: l.map (·.1))) = []
    · rw [hx]
      have hu : (List.filter (fun x : String => x.contains '.') (a.1 :: l.map (·.1))) ≠ [] := by
        intro e
        rw [List.filter_eq_nil_iff] at hx e
        have h1 := hx a.1 (List.mem_cons_self ..)
        have h2 := e a.1 (List.mem_cons_self ..)
        simp only [Function.comp] at h1
        cases hc : a.1.contains '.'
        · rw [hc] at h1; exact h1 rfl
        · rw [hc] at h2; exact h2 rfl
      obtain ⟨m, hm⟩ := least_some ((List.filter (fun x : String => x.contains '.') (a.1 :: l.map (·.1))).map fun id => (id.splitOn ".").getLastD id) (by
        intro e
        exact hu (List.map_eq_nil_iff.1 e))
      exact ⟨m, by rw [hm]; rfl⟩
    · obtain ⟨m, hm⟩ := least_some _ hx
      exact ⟨m, by rw [hm]; rfl⟩

/-- A type that lacks a method of an interface. -/
theorem tas_no {x T : TypeId} {want : Array (String × TypeId)} {i : TypeInfo} (hu : Try.prog.underlying x = some (.interface want)) (hi : Try.prog.info? T = some i) (h : (want.toList.filter fun x => !i.methods.any fun m => m.name == x.1 && m.sig == x.2).isEmpty = false) (hz : ∀ w : World, (zeroValue x).run Try.prog w = .ok .nilIface w) (u : Value) : tas x T u false := by
  intro w
  obtain ⟨m, hm⟩ := missing_some want i.methods h
  simp [Instr.typeAssert, run_underlying hu, typeInfo, hi, hm, hz]
theorem lacks {x T : TypeId} (h : (do
    let .interface want ← Try.prog.underlying x | none
    let i ← Try.prog.info? T
    return (want.toList.filter fun x => !i.methods.any fun m => m.name == x.1 && m.sig == x.2).isEmpty) = some false) (hz : ∀ w : World, (zeroValue x).run Try.prog w = .ok .nilIface w) (u : Value) : tas x T u false := by
  cases hu : Try.prog.underlying x with
  | none => rw [hu] at h; cases h
  | some d =>
    rw [hu] at h
    cases d with
    | interface want =>
      cases hi : Try.prog.info? T with
      | none => rw [hi] at h; cases h
      | some i =>
        rw [hi] at h
        exact tas_no hu hi (by simpa using h) hz u
    | _ => cases h
theorem zero75 (w : World) : (zeroValue 75).run Try.prog w = .ok .nilIface w := by kernel_rfl
theorem zero79 (w : World) : (zeroValue 79).run Try.prog w = .ok .nilIface w := by kernel_rfl
theorem lat98 (a : Addr) : tas 75 98 (.pointer (some a)) true := fun w => by kernel_rfl
theorem lat92 (n : Int) : tas 75 92 (.int .i64 n) false := lacks (by kernel_rfl) zero75 _
theorem lat93 (y : Nat) : tas 75 93 (.float .f64 y) false := lacks (by kernel_rfl) zero75 _
theorem lat94 (y : Nat) : tas 75 94 (.float .f64 y) false := lacks (by kernel_rfl) zero75 _
theorem lat96 : tas 75 96 (.agg #[]) false := lacks (by kernel_rfl) zero75 _
theorem lat97 : tas 75 97 (.agg #[]) false := lacks (by kernel_rfl) zero75 _
theorem lat105 (a : Addr) : tas 75 105 (.agg #[.pointer (some a)]) false := lacks (by kernel_rfl) zero75 _
theorem lat109 (a : Addr) : tas 75 109 (.pointer (some a)) false := lacks (by kernel_rfl) zero75 _
theorem tre98 (a : Addr) : tas 79 98 (.pointer (some a)) true := fun w => by kernel_rfl
theorem tre92 (n : Int) : tas 79 92 (.int .i64 n) false := lacks (by kernel_rfl) zero79 _
theorem tre93 (y : Nat) : tas 79 93 (.float .f64 y) false := lacks (by kernel_rfl) zero79 _
theorem tre94 (y : Nat) : tas 79 94 (.float .f64 y) false := lacks (by kernel_rfl) zero79 _
theorem tre96 : tas 79 96 (.agg #[]) false := lacks (by kernel_rfl) zero79 _
theorem tre97 : tas 79 97 (.agg #[]) false := lacks (by kernel_rfl) zero79 _
theorem tre105 (a : Addr) : tas 79 105 (.agg #[.pointer (some a)]) true := fun w => by kernel_rfl
theorem tre109 (a : Addr) : tas 79 109 (.pointer (some a)) true := fun w => by kernel_rfl
theorem ent92 (n : Int) (w : World) : (Instr.typeAssert (.iface 92 (.int .i64 n)) 71 92 true).run Try.prog w = .ok (.tuple #[.int .i64 n, .bool true]) w := by kernel_rfl
theorem entno (T : TypeId) (u : Value) (h : T ≠ 92) (w : World) : (Instr.typeAssert (.iface T u) 71 92 true).run Try.prog w = .ok (.tuple #[.int .i64 0, .bool false]) w := by
  have hu : (underlying 92).run Try.prog w = .ok (.int .i64) w := by kernel_rfl
  have hz : (zeroValue 92).run Try.prog w = .ok (.int .i64 0) w := by kernel_rfl
  simp [Instr.typeAssert, hu, hz, h]

/-- Whether a node tells ahead. -/
theorem latent {w : World} {A : Nat → Prop} {v : Value} {s : NS} (h : NodeR w A v s) : ∃ T u, v = .iface T u ∧ tas 75 T u (isDel s) := by
  cases s with
  | ent n => exact ⟨_, _, h, lat92 _⟩
  | con x => obtain ⟨y, h, _⟩ := h; exact ⟨_, _, h, lat93 _⟩
  | gai x => obtain ⟨y, h, _⟩ := h; exact ⟨_, _, h, lat94 _⟩
  | mix => exact ⟨_, _, h, lat96⟩
  | tim => exact ⟨_, _, h, lat97⟩
  | del r a => obtain ⟨db, rb, ys, _, _, _, h, _⟩ := h; exact ⟨_, _, h, lat98 _⟩
  | fil c s => obtain ⟨fb, _, h, _⟩ := h; exact ⟨_, _, h, lat105 _⟩
  | sin p s => obtain ⟨sb, vb, _, _, _, h, _⟩ := h; exact ⟨_, _, h, lat109 _⟩

/-- Which row comes in, if it is an entry. -/
theorem entry {w : World} {A : Nat → Prop} {v : Value} {s : NS} (h : NodeR w A v s) : ∃ T u, v = .iface T u ∧ ((∃ n : Nat, s = .ent n ∧ ∀ w : World, (Instr.typeAssert (.iface T u) 71 92 true).run Try.prog w = .ok (.tuple #[.int .i64 (n : Int), .bool true]) w) ∨ ((∀ n, s ≠ .ent n) ∧ ∀ w : World, (Instr.typeAssert (.iface T u) 71 92 true).run Try.prog w = .ok (.tuple #[.int .i64 0, .bool false]) w)) := by
  cases s with
  | ent n => exact ⟨_, _, h, .inl ⟨n, rfl, fun w => ent92 _ w⟩⟩
  | con x => obtain ⟨y, h, _⟩ := h; exact ⟨_, _, h, .inr ⟨(fun n e => by cases e), entno 93 _ (by decide)⟩⟩
  | gai x => obtain ⟨y, h, _⟩ := h; exact ⟨_, _, h, .inr ⟨(fun n e => by cases e), entno 94 _ (by decide)⟩⟩
  | mix => exact ⟨_, _, h, .inr ⟨(fun n e => by cases e), entno 96 _ (by decide)⟩⟩
  | tim => exact ⟨_, _, h, .inr ⟨(fun n e => by cases e), entno 97 _ (by decide)⟩⟩
  | del r a => obtain ⟨db, rb, ys, _, _, _, h, _⟩ := h; exact ⟨_, _, h, .inr ⟨(fun n e => by cases e), entno 98 _ (by decide)⟩⟩
  | fil c s => obtain ⟨fb, _, h, _⟩ := h; exact ⟨_, _, h, .inr ⟨(fun n e => by cases e), entno 105 _ (by decide)⟩⟩
  | sin p s => obtain ⟨sb, vb, _, _, _, h, _⟩ := h; exact ⟨_, _, h, .inr ⟨(fun n e => by cases e), entno 109 _ (by decide)⟩⟩

/-- Whether it can be brought to rest, and how. -/
theorem resting {w : World} {A : Nat → Prop} {v : Value} {s : NS} (h : NodeR w A v s) : ∃ T u, v = .iface T u ∧ ((restN s = s ∧ tas 79 T u false) ∨
    (tas 79 T u true ∧ ∃ F, mth T u "cantus/graph.rest" F ∧ entr F ∧ Calls Try.prog F #[u] w fun e w' => e = .returned (.tuple #[]) ∧ Hid (NodeR w' (fun b => A b ∨ w.heap.size ≤ b) v (restN s)) ∧ Hid (Fr A w w'))) := by
  cases s with
  | ent n => exact ⟨_, _, h, .inl ⟨rfl, tre92 _⟩⟩
  | con x => obtain ⟨y, h, _⟩ := h; exact ⟨_, _, h, .inl ⟨rfl, tre93 _⟩⟩
  | gai x => obtain ⟨y, h, _⟩ := h; exact ⟨_, _, h, .inl ⟨rfl, tre94 _⟩⟩
  | mix => exact ⟨_, _, h, .inl ⟨rfl, tre96⟩⟩
  | tim => exact ⟨_, _, h, .inl ⟨rfl, tre97⟩⟩
  | del r a =>
    obtain ⟨db, rb, ys, hdb, hrb, hne, h, hst, hrow, hc, ha, hr⟩ := h
    have hl : ys.length = r.length := by rw [← hc, List.length_map]
    refine ⟨_, _, h, .inr ⟨tre98 _, _, rest98 _, en69, (delay_rest db rb ys a w ⟨by rw [hl]; exact hst, hrow⟩ hne (by omega)).mono fun e w' hM => ⟨hM.1, ⟨db, rb, _, .inl hdb, .inl hrb, hne, h, ?_, hM.2.1.out.2, ?_, ?_, ?_⟩, hM.2.2.out.mono (fun b hb => hb.elim (fun e => by rw [e]; exact hdb) (fun e => by rw [e]; exact hrb))⟩⟩⟩
    · have := hM.2.1.out.1
      rw [List.length_replicate, hl] at this
      rw [List.length_replicate]
      exact this
    · rw [List.map_replicate, GFNew.cn_zero, hl]
    · rw [List.length_replicate]; omega
    · rw [List.length_replicate]; exact hr
  | fil c s =>
    obtain ⟨fb, hfb, h, hf⟩ := h
    exact ⟨_, _, h, .inr ⟨tre105 _, _, rest105 _, en73, (strainer_rest fb c s w hf).mono fun e w' hM => ⟨hM.1, ⟨fb, .inl hfb, h, hM.2.1.out⟩, hM.2.2.out.mono (fun b hb => by rw [hb]; exact hfb)⟩⟩⟩
  | sin p s =>
    obtain ⟨sb, vb, hsb, hvb, hne, h, hs, hv, hp, hks, hst⟩ := h
    refine ⟨_, _, h, .inr ⟨tre109 _, _, rest109 _, en77, (singer_rest sb vb p w hs hp).mono fun e w' hM => ?_⟩⟩
    obtain ⟨he, vb2, hv2, h1, h2, h3⟩ := hM
    have hsl := lt_of hs
    exact ⟨he, ⟨sb, vb2, .inl hsb, .inr hv2, by omega, h, h1.out, h2.out, hp, GVWalk.st0_ok, hst⟩, h3.out.mono (fun b hb => by rw [hb]; exact hsb)⟩

/-- A delay. -/
theorem delay_of {w : World} {A : Nat → Prop} {v : Value} {r : List Nat} {a : Nat} (h : NodeR w A v (.del r a)) : ∃ db rb ys, v = .iface 98 (.pointer (some ⟨db, 0, none⟩)) ∧ A db ∧ A rb ∧ db ≠ rb ∧ DelR w db rb ys a ∧ ys.map cn = r ∧ ys.length = r.length ∧ a < r.length ∧ r.length ≤ 4096 := by
  obtain ⟨db, rb, ys, hdb, hrb, hne, h, hst, hrow, hc, ha, hr⟩ := h
  have hl : ys.length = r.length := by rw [← hc, List.length_map]
  exact ⟨db, rb, ys, h, hdb, hrb, hne, ⟨by rw [hl]; exact hst, hrow⟩, hc, hl, ha, hr⟩

/-- How many it must listen to. -/
def arity : NS → Nat → Prop
  | .ent _, m => 1 ≤ m
  | .gai _, m => 1 ≤ m
  | .tim, m => 2 ≤ m
  | .fil _ _, m => 1 ≤ m
  | _, _ => True

/-- A node that does not tell ahead is run. -/
theorem node_run {w : World} {A : Nat → Prop} {v : Value} {s : NS} (h : NodeR w A v s) (hd : isDel s = false) (ia : Option Addr) (m ic ob n : Nat) (ls : List (List Nat)) (hi : CLl w (fun b => b ≠ ob ∧ ¬ A b) (.slice ia m ic) ls) (hm : ls.length = m) (hm2 : m ≤ 1099511627776) (hls : ∀ l ∈ ls, l.length = n) (har : arity s m) (hn0 : 0 < n) (hn : n ≤ 65536) (ho : RowF w ob (List.replicate n 0)) (hA : ¬ A ob) :
    ∃ T u F, v = .iface T u ∧ mth T u "cantus/graph.run" F ∧ entr F ∧ Calls Try.prog F #[u, .slice ia m ic, .slice (some ⟨ob, 0, none⟩) n n] w fun e w' => e = .returned (.tuple #[]) ∧ Hid (RunP w A ob n v (GMod.runN s ls n) w') := by
  have hob := lt_of ho
  have hol : (List.replicate n 0).length = n := List.length_replicate
  have hg : ∀ i, i < m → ∃ l, ls[i]? = some l ∧ l.length = n ∧ ls.getD i [] = l := fun i hi => by
    have he : ls[i]? = some (ls[i]'(by omega)) := List.getElem?_eq_getElem _
    exact ⟨_, he, hls _ (List.getElem_mem _), by rw [List.getD_eq_getElem?_getD, he]; rfl⟩
  have hi1 : CLl w (fun b => b ≠ ob) (.slice ia m ic) ls := hi.mono fun b hb => hb.1
  have made : ∀ {ys : List Nat} {e : Ending} {w' : World} {s' : NS}, NodeR w A v s' → Made w ob n ys e w' → e = .returned (.tuple #[]) ∧ Hid (RunP w A ob n v (ys, s') w') := fun hs' hM =>
    ⟨hM.1, hM.2.1.out, hs'.fr hM.2.2.out (fun b hb e => hA (e ▸ hb)), hM.2.2.out.mono (fun b hb => .inr hb)⟩
  cases s with
  | ent k =>
    obtain ⟨l, h0, hl, hgd⟩ := hg 0 har
    refine ⟨_, _, _, h, run92 _, en62, (entry_run _ ia m ic ob n ls l _ w hi1 hm h0 hl hn0 ho hol).mono fun e w' hM => ?_⟩
    show _ ∧ Hid (RunP w A ob n v (ls.getD 0 [], .ent k) w')
    rw [hgd]
    exact made h hM
  | con x =>
    have hh := h
    obtain ⟨y, h, rfl⟩ := h
    exact ⟨_, _, _, h, run93 _, en63, (constant_run y _ ob n _ w hn ho hol).mono fun e w' hM => made (s' := .con (cn y)) hh hM⟩
  | gai x =>
    have hh := h
    obtain ⟨y, h, rfl⟩ := h
    obtain ⟨l, h0, hl, hgd⟩ := hg 0 har
    refine ⟨_, _, _, h, run94 _, en64, (gain_run y ia m ic ob n ls l _ w hi1 hm h0 hl hn ho hol).mono fun e w' hM => ?_⟩
    show _ ∧ Hid (RunP w A ob n v ((ls.getD 0 []).map (fmul (cn y)), .gai (cn y)) w')
    rw [hgd]
    exact made (s' := .gai (cn y)) hh hM
  | mix => exact ⟨_, _, _, h, run96, en65, (mix_run ia m ic ob n ls w hob hi1 hm hm2 hls hn ho).mono fun e w' hM => made (s' := .mix) h hM⟩
  | tim =>
    have h2m : 2 ≤ m := har
    obtain ⟨l, h0, hl, hgd⟩ := hg 0 (by omega)
    obtain ⟨l2, h1, hl2, hgd2⟩ := hg 1 (by omega)
    refine ⟨_, _, _, h, run97, en66, (times_run ia m ic ob n ls l l2 _ w hob hi1 hm h0 h1 hl hl2 hn ho hol).mono fun e w' hM => ?_⟩
    show _ ∧ Hid (RunP w A ob n v (List.zipWith fmul (ls.getD 0 []) (ls.getD 1 []), .tim) w')
    rw [hgd, hgd2]
    exact made (s' := .tim) h hM
  | del r a => cases hd
  | fil c s =>
    obtain ⟨fb, hfb, h, hf⟩ := h
    obtain ⟨l, h0, hl, hgd⟩ := hg 0 har
    refine ⟨_, _, _, h, run105 _, en74, (strainer_run fb c s ia m ic ob n ls l _ w (fun e => hA (e ▸ hfb)) (hi.mono fun b hb => ⟨hb.1, fun e => hb.2 (e ▸ hfb)⟩) hm h0 hl hn0 hn ho hol hf).mono fun e w' hM => ?_⟩
    show _ ∧ Hid (RunP w A ob n v (GFRun.outs c s (ls.getD 0 []), .fil c (GFRun.fin c s (ls.getD 0 []))) w')
    rw [hgd]
    exact ⟨hM.1, hM.2.1.out, ⟨fb, hfb, h, hM.2.2.1.out⟩, hM.2.2.2.out.mono (fun b hb => hb.imp (fun e => by rw [e]; exact hfb) id)⟩
  | sin p s =>
    obtain ⟨sb, vb, hsb, hvb, hne, h, hs, hv, hp, hks, hst⟩ := h
    refine ⟨_, _, _, h, run109 _, en78, (singer_run sb vb p s _ ob n _ w (fun e => hA (e ▸ hsb)) (fun e => hA (e ▸ hvb)) hn0 hn ho hol hs hv (GVMod.okP_of hp) hks hst).mono fun e w' hM => ?_⟩
    refine ⟨hM.1, hM.2.1.out, ⟨sb, vb, hsb, hvb, hne, h, hM.2.2.2.out.row hs (by rintro (e | e); exact hne e; exact hA (e ▸ hsb)), hM.2.2.1.out, hp, GVMod.after_ok hks n, hst⟩, hM.2.2.2.out.mono (fun b hb => hb.imp (fun e => by rw [e]; exact hvb) id)⟩
end Go.Proofs.Ytdliilmnfbgplaa.GNode4

/- A graph in memory. -/
namespace Go.Proofs.Ytdliilmnfbgplaa.GPMem
open Go Go.RowKit Go.Proofs.Ytdliilmnfbgplaa.Fl Go.Proofs.Ytdliilmnfbgplaa.Fw Go.Proofs.Ytdliilmnfbgplaa.GRd Go.Proofs.Ytdliilmnfbgplaa.GCells Go.Proofs.Ytdliilmnfbgplaa.GStep Go.Proofs.Ytdliilmnfbgplaa.GMod Go.Proofs.Ytdliilmnfbgplaa.GMem Go.Proofs.Ytdliilmnfbgplaa.GNode Go.Proofs.Ytdliilmnfbgplaa.GNode2 Go.Proofs.Ytdliilmnfbgplaa.GNode3 Go.Proofs.Ytdliilmnfbgplaa.GNode4 Go.Proofs.Ytdliilmnfbgplaa.Hp Go.Proofs.Ytdliilmnfbgplaa.Rd Go.Proofs.Ytdliilmnfbgplaa.Opn
set_option linter.unusedVariables false
set_option linter.unusedSimpArgs false

def iC (k : Int) : List Value := [.int .i64 k]
theorem iC_len (k : Int) : (iC k).length = 1 := rfl
/-- A node as it is given: its cells, with the slice of what it listens to. -/
def ndC (x : Nd × Value) : List Value :=
  [.int .i64 x.1.kind, x.2, .int .i64 x.1.n, .float .f64 x.1.x, .float .f64 x.1.co.b0, .float .f64 x.1.co.b1, .float .f64 x.1.co.b2, .float .f64 x.1.co.a1, .float .f64 x.1.co.a2,
    .int .i64 x.1.pt.shape, .int .u32 x.1.pt.step, .float .f64 x.1.pt.gain, .int .i64 x.1.pt.att, .int .i64 x.1.pt.dec, .int .i64 x.1.pt.rel, .int .i64 x.1.pt.sus]
theorem ndC_len (x : Nd × Value) : (ndC x).length = 16 := rfl
def NdsR (w : World) (A : Nat → Prop) (v : Value) (xs : List Nd) : Prop :=
  ∃ ps : List (Nd × Value), ps.map Prod.fst = xs ∧ SlA 16 ndC w A v ps ∧ ∀ p ∈ ps, SlA 1 iC w A p.2 p.1.from_
theorem NdsR.fr {w w' : World} {A X : Nat → Prop} {v : Value} {xs : List Nd} (h : NdsR w A v xs) (hf : Fr X w w') (hA : ∀ b, A b → ¬ X b) : NdsR w' A v xs := by
  obtain ⟨ps, h1, h2, h3⟩ := h
  exact ⟨ps, h1, h2.fr hf hA, fun p hp => (h3 p hp).fr hf hA⟩
theorem NdsR.mono {w : World} {A A' : Nat → Prop} {v : Value} {xs : List Nd} (h : NdsR w A v xs) (hA : ∀ b, A b → A' b) : NdsR w A' v xs := by
  obtain ⟨ps, h1, h2, h3⟩ := h
  exact ⟨ps, h1, h2.mono hA, fun p hp => (h3 p hp).mono hA⟩
/-- What one of the nodes listens to. -/
theorem nds_at {w : World} {A : Nat → Prop} {ao : Option Addr} {n c : Nat} {xs : List Nd} (h : NdsR w A (.slice ao n c) xs) {i : Nat} {x : Nd} (hx : xs[i]? = some x) :
    ∃ b off fa fc, ao = some ⟨b, off, none⟩ ∧ A b ∧ w.rangeAt b (off + i * 16) (ndC (x, .slice fa x.from_.length fc)) ∧ w.cell? ⟨b, off + i * 16 + 1, none⟩ = some (.slice fa x.from_.length fc) ∧ SlA 1 iC w A (.slice fa x.from_.length fc) x.from_ := by
  obtain ⟨ps, rfl, h2, h3⟩ := h
  rw [List.getElem?_map] at hx
  cases hp : ps[i]? with
  | none => rw [hp] at hx; cases hx
  | some p =>
    rw [hp] at hx
    simp at hx
    subst hx
    obtain ⟨b, off, rfl, hA, hr⟩ := sla_at h2 hp
    have hs := h3 p (List.mem_of_getElem? hp)
    obtain ⟨x, f⟩ := p
    obtain ⟨fa, fc, e⟩ := sla_open hs
    replace e : f = .slice fa x.from_.length fc := e
    subst e
    exact ⟨b, off, fa, fc, rfl, hA, hr, hr 1 _ rfl, hs⟩
theorem nds_len {w : World} {A : Nat → Prop} {ao : Option Addr} {n c : Nat} {xs : List Nd} (h : NdsR w A (.slice ao n c) xs) : n = xs.length := by
  obtain ⟨ps, rfl, h2, h3⟩ := h
  obtain ⟨_, _, e⟩ := sla_open h2
  simp only [Value.slice.injEq] at e
  rw [List.length_map, e.2.1]

/-- Where a graph lies. -/
structure Hn where
  gb : Nat
  pb : Nat
  na : Option Addr
  nc : Nat
  oa : Option Addr
  oc : Nat
  va : Option Addr
  vc : Nat
  ra : Option Addr
  rc : Nat

/-- What of a graph does not turn. -/
structure GrC (w : World) (Z : Nat → Prop) (h : Hn) (g : Gd) (order : List Nat) (chunk : Nat) (vs : List Value) : Prop where
  z : Z h.gb
  cell : w.heap[h.gb]? = some (.cells #[.int .i64 g.ins, .slice h.na g.nodes.length h.nc, .slice h.oa g.outs.length h.oc, .slice h.va g.nodes.length h.vc, .slice h.ra order.length h.rc, .int .i64 (chunk : Int), .slice (some ⟨h.pb, 0, none⟩) g.nodes.length g.nodes.length] 69 (0, 0))
  nodes : NdsR w Z (.slice h.na g.nodes.length h.nc) g.nodes
  outs : SlA 1 iC w Z (.slice h.oa g.outs.length h.oc) g.outs
  len : vs.length = g.nodes.length
  vs : SlA 1 vC w Z (.slice h.va g.nodes.length h.vc) vs
  order : SlA 1 iC w Z (.slice h.ra order.length h.rc) (order.map fun k : Nat => (k : Int))
theorem GrC.fr {w w' : World} {Z X : Nat → Prop} {h : Hn} {g : Gd} {order : List Nat} {chunk : Nat} {vs : List Value} (k : GrC w Z h g order chunk vs) (hf : Fr X w w') (hZ : ∀ b, Z b → ¬ X b) : GrC w' Z h g order chunk vs :=
  ⟨k.z, hf.row k.cell (hZ _ k.z), k.nodes.fr hf hZ, k.outs.fr hf hZ, k.len, k.vs.fr hf hZ, k.order.fr hf hZ⟩
theorem GrC.mono {w : World} {Z Z' : Nat → Prop} {h : Hn} {g : Gd} {order : List Nat} {chunk : Nat} {vs : List Value} (k : GrC w Z h g order chunk vs) (hZ : ∀ b, Z b → Z' b) : GrC w Z' h g order chunk vs :=
  ⟨hZ _ k.z, k.cell, k.nodes.mono hZ, k.outs.mono hZ, k.len, k.vs.mono hZ, k.order.mono hZ⟩

/-- What the nodes remember. -/
def NsR (w : World) (A : Nat → Nat → Prop) (vs : List Value) (sts : List NS) : Prop :=
  vs.length = sts.length ∧ ∀ i v s, vs[i]? = some v → sts[i]? = some s → NodeR w (A i) v s
theorem NsR.fr {w w' : World} {A : Nat → Nat → Prop} {X : Nat → Prop} {vs : List Value} {sts : List NS} (h : NsR w A vs sts) (hf : Fr X w w') (hA : ∀ i b, A i b → ¬ X b) : NsR w' A vs sts :=
  ⟨h.1, fun i v s hv hs => (h.2 i v s hv hs).fr hf (hA i)⟩
/-- One of them has turned. -/
theorem NsR.set {w w' : World} {A : Nat → Nat → Prop} {X : Nat → Prop} {vs : List Value} {sts : List NS} {i : Nat} {v : Value} {s : NS} (h : NsR w A vs sts) (hv : vs[i]? = some v) (hs : NodeR w' (A i) v s) (hf : Fr X w w') (hA : ∀ j b, j ≠ i → A j b → ¬ X b) : NsR w' A vs (sts.set i s) := by
  refine ⟨by rw [List.length_set]; exact h.1, fun j v' s' hv' hs' => ?_⟩
  by_cases e : i = j
  · subst e
    rw [hv] at hv'
    injection hv' with hv'
    subst hv'
    have hi : i < sts.length := by rw [← h.1]; exact (List.getElem?_eq_some_iff.1 hv).1
    rw [List.getElem?_set_self hi] at hs'
    injection hs' with hs'
    subst hs'
    exact hs
  · rw [List.getElem?_set_ne e] at hs'
    exact (h.2 j v' s' hv' hs').fr hf (hA j · (fun e2 => e e2.symm))

/-- The rows that the nodes write, of n samples, in blocks from B on: the first k of them. -/
structure PastR (w : World) (B pb n N k : Nat) (rb : Nat → Nat) (past : List (List Nat)) : Prop where
  row : ∃ rows : List Value, w.heap[pb]? = some (.cells rows.toArray 38 (0, 0)) ∧ rows.length = N ∧ ∀ i, i < k → rows[i]? = some (.slice (some ⟨rb i, 0, none⟩) n n)
  base : ∀ i, i < k → B ≤ rb i
  inj : ∀ i j, i < k → j < k → rb i = rb j → i = j
  val : ∀ i, i < k → ∃ ys l, RowF w (rb i) ys ∧ ys.length = n ∧ past[i]? = some l ∧ ys.map cn = l
theorem PastR.fr {w w' : World} {X : Nat → Prop} {B pb n N k : Nat} {rb : Nat → Nat} {past : List (List Nat)} (h : PastR w B pb n N k rb past) (hf : Fr X w w') (hp : ¬ X pb) (hr : ∀ i, i < k → ¬ X (rb i)) : PastR w' B pb n N k rb past := by
  obtain ⟨⟨rows, h1, h2, h3⟩, h4, h5, h6⟩ := h
  refine ⟨⟨rows, hf.row h1 hp, h2, h3⟩, h4, h5, fun i hi => ?_⟩
  obtain ⟨ys, l, a, b⟩ := h6 i hi
  exact ⟨ys, l, a.fr hf (hr i hi), b⟩
/-- The next row is there. -/
theorem PastR.next {w w' : World} {B pb n N k : Nat} {rb : Nat → Nat} {past : List (List Nat)} {b : Nat} {ys l : List Nat} (h : PastR w B pb n N k rb past) (hf : Fr (fun i => i = pb) w w') (hb : w.heap.size ≤ b) (hB : B ≤ w.heap.size) (hk : k < N) (hpb : pb < w.heap.size)
    (hr : ∀ rows : List Value, w.heap[pb]? = some (.cells rows.toArray 38 (0, 0)) → w'.heap[pb]? = some (.cells (rows.toArray.setIfInBounds k (.slice (some ⟨b, 0, none⟩) n n)) 38 (0, 0))) (hrow : RowF w' b ys) (hyn : ys.length = n) (hl : past[k]? = some l) (hyl : ys.map cn = l) (hpr : ∀ i, i < k → rb i ≠ pb) :
    PastR w' B pb n N (k + 1) (fun i => if i = k then b else rb i) past := by
  obtain ⟨⟨rows, h1, h2, h3⟩, h4, h5, h6⟩ := h
  have hlt : ∀ i, i < k → rb i < w.heap.size := fun i hi => by
    obtain ⟨_, _, a, _⟩ := h6 i hi
    exact lt_of a
  refine ⟨⟨rows.set k (.slice (some ⟨b, 0, none⟩) n n), ?_, by rw [List.length_set]; exact h2, fun i hi => ?_⟩, fun i hi => ?_, fun i j hi hj e => ?_, fun i hi => ?_⟩
  · rw [hr rows h1, List.setIfInBounds_toArray]
  · by_cases e : i = k
    · subst e
      rw [if_pos rfl, List.getElem?_set_self (by omega)]
    · rw [if_neg e, List.getElem?_set_ne (fun e2 => e e2.symm)]
      exact h3 i (by omega)
  · show B ≤ (if i = k then b else rb i)
    split
    · omega
    · exact h4 i (by omega)
  · replace e : (if i = k then b else rb i) = (if j = k then b else rb j) := e
    by_cases e1 : i = k
    · by_cases e2 : j = k
      · omega
      · rw [if_pos e1, if_neg e2] at e
        have := hlt j (by omega)
        omega
    · by_cases e2 : j = k
      · rw [if_neg e1, if_pos e2] at e
        have := hlt i (by omega)
        omega
      · rw [if_neg e1, if_neg e2] at e
        exact h5 i j (by omega) (by omega) e
  · show ∃ ys l, RowF w' (if i = k then b else rb i) ys ∧ _
    by_cases e : i = k
    · subst e
      rw [if_pos rfl]
      exact ⟨ys, l, hrow, hyn, hl, hyl⟩
    · rw [if_neg e]
      obtain ⟨ys, l, a, c⟩ := h6 i (by omega)
      exact ⟨ys, l, a.fr hf (hpr i (by omega)), c⟩
/-- A row has been written. -/
theorem PastR.set {w w' : World} {X : Nat → Prop} {B pb n N k : Nat} {rb : Nat → Nat} {past : List (List Nat)} {i : Nat} {ys l : List Nat} (h : PastR w B pb n N k rb past) (hf : Fr X w w') (hi : i < k) (hp : ¬ X pb) (hX : ∀ j, j < k → j ≠ i → ¬ X (rb j)) (hrow : RowF w' (rb i) ys) (hyn : ys.length = n) (hyl : ys.map cn = l) : PastR w' B pb n N k rb (past.set i l) := by
  obtain ⟨⟨rows, h1, h2, h3⟩, h4, h5, h6⟩ := h
  refine ⟨⟨rows, hf.row h1 hp, h2, h3⟩, h4, h5, fun j hj => ?_⟩
  obtain ⟨zs, l2, a, b, c, d⟩ := h6 j hj
  by_cases e : i = j
  · subst e
    exact ⟨ys, l, hrow, hyn, by rw [List.getElem?_set_self (List.getElem?_eq_some_iff.1 c).1], hyl⟩
  · exact ⟨zs, l2, a.fr hf (hX j hj (fun e2 => e e2.symm)), b, by rw [List.getElem?_set_ne e]; exact c, d⟩
/-- One of the rows, as a value. -/
theorem PastR.at {w : World} {B pb n N k : Nat} {rb : Nat → Nat} {past : List (List Nat)} (h : PastR w B pb n N k rb past) {i : Nat} (hi : i < k) : w.cell? ⟨pb, i, none⟩ = some (.slice (some ⟨rb i, 0, none⟩) n n) := by
  obtain ⟨rows, h1, h2, h3⟩ := h.row
  rw [cell_of h1]
  simpa using h3 i hi
end Go.Proofs.Ytdliilmnfbgplaa.GPMem

/- Where a piece stands while the nodes are run. -/
namespace Go.Proofs.Ytdliilmnfbgplaa.GPState
open Go Go.RowKit Go.Proofs.Ytdliilmnfbgplaa.Fl Go.Proofs.Ytdliilmnfbgplaa.Fw Go.Proofs.Ytdliilmnfbgplaa.GRd Go.Proofs.Ytdliilmnfbgplaa.GCells Go.Proofs.Ytdliilmnfbgplaa.GStep Go.Proofs.Ytdliilmnfbgplaa.GMod Go.Proofs.Ytdliilmnfbgplaa.GMem Go.Proofs.Ytdliilmnfbgplaa.GNode Go.Proofs.Ytdliilmnfbgplaa.GNode2 Go.Proofs.Ytdliilmnfbgplaa.GNode3 Go.Proofs.Ytdliilmnfbgplaa.GNode4 Go.Proofs.Ytdliilmnfbgplaa.GPMem Go.Proofs.Ytdliilmnfbgplaa.Hp Go.Proofs.Ytdliilmnfbgplaa.Rd Go.Proofs.Ytdliilmnfbgplaa.Opn
set_option linter.unusedVariables false
set_option linter.unusedSimpArgs false

/-- What a node remembers goes with what it is. -/
def Fits (g : Gd) (x : Nd) (s : NS) : Prop := (isDel s = true → x.kind = 6 ∧ ∃ k : Nat, x.from_ = [(k : Int)]) ∧ (isDel s = false → x.kind ≠ 6) ∧ (∀ k, s = .ent k → (k : Int) < g.ins ∧ x.from_ = []) ∧ ((∀ k, s ≠ .ent k) → arity s x.from_.length)
/-- A graph that was made. -/
structure GOk (g : Gd) (order : List Nat) (sts : List NS) : Prop where
  small : g.nodes.length ≤ 256
  len : sts.length = g.nodes.length
  fits : ∀ (i : Nat) (x : Nd) (s : NS), g.nodes[i]? = some x → sts[i]? = some s → Fits g x s
  refs : ∀ (i : Nat) (x : Nd), g.nodes[i]? = some x → x.from_.length ≤ 1048576 ∧ ∀ k ∈ x.from_, 0 ≤ k ∧ k < (g.nodes.length : Int)
  ord : ∀ i ∈ order, i < g.nodes.length ∧ isD g i = false
  ordl : order.length ≤ 256
  nodup : order.Nodup
  self : ∀ i ∈ order, ∀ x, g.nodes[i]? = some x → ∀ k ∈ x.from_, k ≠ (i : Int)
  outs : g.outs.length ≤ 256 ∧ ∀ k ∈ g.outs, 0 ≤ k ∧ k < (g.nodes.length : Int)
  ins : 0 ≤ g.ins ∧ g.ins ≤ 16

theorem fits_run {g : Gd} {x : Nd} {s : NS} (h : Fits g x s) (ls : List (List Nat)) (n : Nat) : Fits g x (GMod.runN s ls n).2 := by
  cases s <;> first | exact h | (obtain ⟨h1, h2, h3, h4⟩ := h; exact ⟨(fun e => by cases e), (fun e => h2 rfl), (fun k e => by cases e), (fun _ => h4 (fun k e => by cases e))⟩)
theorem GOk.set {g : Gd} {order : List Nat} {sts : List NS} (h : GOk g order sts) {i : Nat} {s : NS} (hf : ∀ x, g.nodes[i]? = some x → Fits g x s) : GOk g order (sts.set i s) :=
  ⟨h.small, by rw [List.length_set]; exact h.len, fun j x s' hx hs => by
    by_cases e : i = j
    · subst e
      have hi : i < sts.length := by rw [h.len]; exact (List.getElem?_eq_some_iff.1 hx).1
      rw [List.getElem?_set_self hi] at hs
      injection hs with hs
      rw [← hs]
      exact hf x hx
    · rw [List.getElem?_set_ne e] at hs
      exact h.fits j x s' hx hs, h.refs, h.ord, h.ordl, h.nodup, h.self, h.outs, h.ins⟩

/-- Which blocks are whose. -/
structure Lay (w : World) (Z : Nat → Prop) (A : Nat → Nat → Prop) (pb : Nat) : Prop where
  zp : ¬ Z pb
  za : ∀ i b, Z b → ¬ A i b
  ap : ∀ i, ¬ A i pb
  aa : ∀ i j b, A i b → A j b → i = j
  zl : ∀ b, Z b → b < w.heap.size
  al : ∀ i b, A i b → b < w.heap.size
  pl : pb < w.heap.size

/-- Where a piece stands. -/
structure PS (w0 wr : World) (A : Nat → Nat → Prop) (pb n : Nat) (vs : List Value) (g : Gd) (order : List Nat) (ls : List (List Nat)) (p0 : List (List Nat)) (s0 : List NS) (rb : Nat → Nat) (j : Nat) (past : List (List Nat)) (sts : List NS) : Prop where
  eq : playN g ls n order (p0, s0) = playN g ls n (order.drop j) (past, sts)
  rowsR : PastR wr w0.heap.size pb n g.nodes.length g.nodes.length rb past
  pl : past.length = g.nodes.length
  ns : NsR wr A vs sts
  ok : GOk g order sts
  fresh : ∀ i ∈ order.drop j, past[i]? = some (List.replicate n 0)
  fr : Fr (fun b => (∃ i, A i b) ∨ b = pb) w0 wr

theorem PS.grown {w0 wr w2 : World} {A : Nat → Nat → Prop} {pb n : Nat} {vs : List Value} {g : Gd} {order : List Nat} {ls p0 : List (List Nat)} {s0 : List NS} {rb : Nat → Nat} {j : Nat} {past : List (List Nat)} {sts : List NS} (h : PS w0 wr A pb n vs g order ls p0 s0 rb j past sts) (hg : wr.grownBy w2 none) : PS w0 w2 A pb n vs g order ls p0 s0 rb j past sts :=
  ⟨h.eq, h.rowsR.fr (X := fun _ => False) (.none hg) id (fun _ _ => id), h.pl, h.ns.fr (X := fun _ => False) (.none hg) (fun _ _ _ => id), h.ok, h.fresh, h.fr.trans (.none hg)⟩

theorem PS.next {w0 wr w3 : World} {Z : Nat → Prop} {A : Nat → Nat → Prop} {pb n : Nat} {vs : List Value} {g : Gd} {order : List Nat} {ls p0 : List (List Nat)} {s0 : List NS} {rb : Nat → Nat} {j : Nat} {past : List (List Nat)} {sts : List NS} (h : PS w0 wr A pb n vs g order ls p0 s0 rb j past sts) (hl : Lay w0 Z A pb)
    {i : Nat} {x : Nd} {s : NS} {v : Value} (hj : order[j]? = some i) (hx : g.nodes[i]? = some x) (hs : sts[i]? = some s) (hv : vs[i]? = some v)
    (hr : RunP wr (A i) (rb i) n v (GMod.runN s (heardN ls past x s) n) w3) :
    PS w0 w3 A pb n vs g order ls p0 s0 rb (j + 1) (past.set i (GMod.runN s (heardN ls past x s) n).1) (sts.set i (GMod.runN s (heardN ls past x s) n).2) := by
  obtain ⟨⟨ys, hr1, hr2, hr3⟩, hn, hf⟩ := hr
  have hiN : i < g.nodes.length := (List.getElem?_eq_some_iff.1 hx).1
  have hjl := (List.getElem?_eq_some_iff.1 hj).1
  have hd : order.drop j = i :: order.drop (j + 1) := by
    rw [List.drop_eq_getElem_cons hjl]
    rw [List.getElem?_eq_getElem hjl] at hj
    injection hj with hj
    rw [hj]
  have hal := hl.al
  refine ⟨?_, h.rowsR.set hf hiN ?_ ?_ hr1 hr2 hr3, by rw [List.length_set]; exact h.pl, h.ns.set hv hn hf ?_, h.ok.set (fun x' hx' => ?_), fun k hk => ?_, ?_⟩
  · rw [h.eq, hd]
    simp only [playN, hx, hs]
  · rintro (e | e)
    · exact hl.ap i e
    · have := h.rowsR.base i hiN
      have := hl.pl
      omega
  · rintro k hk hki (e | e)
    · have := h.rowsR.base k hk
      have := hal i _ e
      omega
    · exact hki (h.rowsR.inj k i hk hiN e)
  · rintro k b hki hkb (e | e)
    · exact hki (hl.aa k i b hkb e)
    · have := h.rowsR.base i hiN
      have := hal k b hkb
      omega
  · rw [hx] at hx'
    injection hx' with hx'
    subst hx'
    exact fits_run (h.ok.fits i x s hx hs) _ _
  · have hnd : (order.drop j).Nodup := h.ok.nodup.drop
    rw [hd, List.nodup_cons] at hnd
    have hne : i ≠ k := fun e => hnd.1 (e ▸ hk)
    rw [List.getElem?_set_ne hne]
    exact h.fresh k (by rw [hd]; exact List.mem_cons_of_mem _ hk)
  · refine fr_trans2 h.fr hf ?_
    rintro b (e | e)
    · exact .inl (.inl ⟨i, e⟩)
    · right
      have := h.rowsR.base i hiN
      omega

theorem zeros_of {ys : List Nat} {n : Nat} (h : ys.map cn = List.replicate n 0) : ys = List.replicate n 0 := by
  have hl : ys.length = n := by
    have := congrArg List.length h
    simpa using this
  apply List.ext_getElem?
  intro i
  have := congrArg (fun l => l[i]?) h
  simp only [List.getElem?_map, List.getElem?_replicate] at this
  rw [List.getElem?_replicate]
  cases hy : ys[i]? with
  | none =>
    rw [hy] at this
    exact this
  | some y =>
    rw [hy] at this
    split at this
    · rename_i hi
      rw [if_pos hi]
      simp at this
      rw [show y = 0 from by
        unfold cn at this
        split at this
        · exact absurd this (by decide)
        · exact this]
    · cases this
/-- The row that a node is to write is empty yet. -/
theorem PS.row0 {w0 wr : World} {A : Nat → Nat → Prop} {pb n : Nat} {vs : List Value} {g : Gd} {order : List Nat} {ls p0 : List (List Nat)} {s0 : List NS} {rb : Nat → Nat} {j : Nat} {past : List (List Nat)} {sts : List NS} (h : PS w0 wr A pb n vs g order ls p0 s0 rb j past sts) {i : Nat} (hj : order[j]? = some i) : RowF wr (rb i) (List.replicate n 0) := by
  have hjl := (List.getElem?_eq_some_iff.1 hj).1
  have hd : order.drop j = i :: order.drop (j + 1) := by
    rw [List.drop_eq_getElem_cons hjl]
    rw [List.getElem?_eq_getElem hjl] at hj
    injection hj with hj
    rw [hj]
  have h1 := h.fresh i (by rw [hd]; exact List.mem_cons_self ..)
  have hiN := (h.ok.ord i (List.mem_of_getElem? hj)).1
  obtain ⟨ys, l, a, b, c, d⟩ := h.rowsR.val i hiN
  rw [h1] at c
  injection c with c
  subst c
  rw [← zeros_of d]
  exact a

/-- The rows that a node listens to, as they are gathered. -/
structure HrR (w : World) (B : Nat) (A : Nat → Prop) (v : Value) (us : List Value) (ls : List (List Nat)) : Prop where
  own : w.ownsRow B 38 1 v us.length (flC vC us)
  len : us.length = ls.length
  rows : ∀ (i : Nat) (u : Value) (l : List Nat), us[i]? = some u → ls[i]? = some l → CFl w A u l
theorem HrR.nil (w : World) (B : Nat) (A : Nat → Prop) : HrR w B A (.slice none 0 0) [] [] := ⟨⟨rfl, .inl ⟨rfl, rfl⟩⟩, rfl, fun i u l h => by simp at h⟩
theorem HrR.grown {w w' : World} {B : Nat} {A : Nat → Prop} {v : Value} {us : List Value} {ls : List (List Nat)} (h : HrR w B A v us ls) (hg : w.grownBy w' none) : HrR w' B A v us ls :=
  ⟨own_kept h.own hg, h.len, fun i u l hu hl => (h.rows i u l hu hl).grown hg⟩
theorem HrR.cll {w : World} {B : Nat} {A A' : Nat → Prop} {v : Value} {us : List Value} {ls : List (List Nat)} (h : HrR w B A v us ls) (hA : ∀ b, A b → A' b) (hB : ∀ b, B ≤ b → A' b) : CLl w A' v ls :=
  ⟨us, h.len, sla_of_own vC_len h.own A' (fun b hb => hB b (own_base h.own hb).1), fun i u l hu hl => (h.rows i u l hu hl).mono hA⟩
/-- One more. -/
theorem HrR.next {w w' : World} {B : Nat} {A : Nat → Prop} {v v' : Value} {us : List Value} {ls : List (List Nat)} {u : Value} {l : List Nat} (h : HrR w B A v us ls) (ho : w'.ownsRow B 38 1 v' (us.length + 1) (flC vC us ++ [u])) (hf : Fr (fun b => v.ownBlock = some b) w w') (hu : CFl w A u l) (hA : ∀ b, A b → v.ownBlock ≠ some b) : HrR w' B A v' (us ++ [u]) (ls ++ [l]) := by
  refine ⟨?_, by simp [h.len], fun i u' l' hu' hl' => ?_⟩
  · rw [List.length_append, flC_append]
    exact ho
  · rcases Nat.lt_or_ge i us.length with h1 | h1
    · rw [List.getElem?_append_left h1] at hu'
      rw [List.getElem?_append_left (by rw [← h.len]; exact h1)] at hl'
      exact (h.rows i u' l' hu' hl').fr hf hA
    · rw [List.getElem?_append_right h1] at hu'
      rw [List.getElem?_append_right (by rw [← h.len]; exact h1), ← h.len] at hl'
      have hi : i - us.length = 0 := by
        have := (List.getElem?_eq_some_iff.1 hu').1
        simpa using this
      rw [hi] at hu' hl'
      simp at hu' hl'
      subst hu' hl'
      exact hu.fr hf hA
end Go.Proofs.Ytdliilmnfbgplaa.GPState
