/- Tones in memory; a frame over all blocks but some. -/
import Derived.Test.YtdnmimfichijgaaKMod
import Derived.Test.YtdnmimfichijgaaApp
import Derived.Test.YtdnmimfichijgaaOpn
import Derived.Deep.MidRow
namespace Go.Proofs.Ytdnmimfichijgaa.KRead
open Go Go.RowKit Go.Proofs.Ytdnmimfichijgaa.KMod Go.Proofs.Ytdnmimfichijgaa.Hp Go.Proofs.Ytdnmimfichijgaa.Rd Go.Proofs.Ytdnmimfichijgaa.Opn
set_option linter.unusedVariables false

/-- All but the blocks of X is as it was. -/
structure Fr (X : Nat → Prop) (w w' : World) : Prop where
  os : w'.os = w.os
  tape : w'.tape = w.tape
  output : w'.output = w.output
  size : w.heap.size ≤ w'.heap.size
  block : ∀ b, b < w.heap.size → ¬ X b → w'.heap[b]? = w.heap[b]?

section
variable {X : Nat → Prop} {a b c : World}
theorem Fr.refl (X : Nat → Prop) (w : World) : Fr X w w := ⟨rfl, rfl, rfl, Nat.le_refl _, fun _ _ _ => rfl⟩
theorem Fr.trans (h : Fr X a b) (k : Fr X b c) : Fr X a c :=
  ⟨k.os.trans h.os, k.tape.trans h.tape, k.output.trans h.output, Nat.le_trans h.size k.size, fun i hi hr => (k.block i (Nat.lt_of_lt_of_le hi h.size) hr).trans (h.block i hi hr)⟩
theorem Fr.of {row : Option Nat} (h : a.grownBy b row) (hr : ∀ i, row = some i → X i) : Fr X a b :=
  ⟨h.os, h.tape, h.output, h.size, fun i hi hx => h.block i hi (fun e => hx (hr i e.symm))⟩
theorem Fr.none (h : a.grownBy b none) : Fr X a b := .of h (fun i e => by cases e)
theorem Fr.mono {Y : Nat → Prop} (h : Fr X a b) (hx : ∀ i, X i → Y i) : Fr Y a b := ⟨h.os, h.tape, h.output, h.size, fun i hi hy => h.block i hi (fun e => hy (hx i e))⟩
theorem Fr.row (h : Fr X a b) {i : Nat} {o : Obj} (hi : a.heap[i]? = some o) (hx : ¬ X i) : b.heap[i]? = some o := by
  rw [h.block i (lt_of hi) hx]; exact hi
theorem Fr.cell (h : Fr X a b) {p : Addr} {v : Value} (hc : a.cell? p = some v) (hx : ¬ X p.block) : b.cell? p = some v := by
  have hlt : p.block < a.heap.size := by
    rcases Nat.lt_or_ge p.block a.heap.size with h | h
    · exact h
    · unfold World.cell? at hc
      rw [Array.getElem?_eq_none h] at hc
      cases hc
  rw [← hc]
  exact World.cell?_of_block (h.block _ hlt hx)
/-- Seen from where the call began. -/
theorem Fr.grown (h : Fr X a b) (hx : ∀ i, X i → a.heap.size ≤ i) : a.grownBy b Option.none := ⟨h.os, h.tape, h.output, h.size, fun i hi _ => h.block i hi (fun e => by have := hx i e; omega)⟩
end

/-- A slice of elements of so many cells, in blocks that A allows. -/
def SlA {α : Type} (s : Nat) (C : α → List Value) (w : World) (A : Nat → Prop) (v : Value) (xs : List α) : Prop :=
  (∃ b off cap, A b ∧ v = .slice (some ⟨b, off, none⟩) xs.length cap ∧ ∀ i x, xs[i]? = some x → w.rangeAt b (off + i * s) (C x)) ∨ (∃ ao cap, v = .slice ao 0 cap ∧ xs = [])

section
variable {α : Type} {s : Nat} {C : α → List Value} {w w' : World} {A A' : Nat → Prop} {v : Value} {xs : List α}
theorem SlA.mono (h : SlA s C w A v xs) (hA : ∀ b, A b → A' b) : SlA s C w A' v xs := by
  rcases h with ⟨b, off, cap, ha, e, h⟩ | h
  · exact .inl ⟨b, off, cap, hA b ha, e, h⟩
  · exact .inr h
theorem SlA.fr {X : Nat → Prop} (h : SlA s C w A v xs) (hf : Fr X w w') (hA : ∀ b, A b → ¬ X b) : SlA s C w' A v xs := by
  rcases h with ⟨b, off, cap, ha, e, h⟩ | h
  · exact .inl ⟨b, off, cap, ha, e, fun i x hx j u hu => hf.cell (h i x hx j u hu) (hA b ha)⟩
  · exact .inr h
theorem SlA.kept {row : Option Nat} (h : SlA s C w A v xs) (hg : w.grownBy w' row) (hr : ∀ b, row = some b → ¬ A b) : SlA s C w' A v xs := by
  rcases h with ⟨b, off, cap, ha, e, h⟩ | h
  · exact .inl ⟨b, off, cap, ha, e, fun i x hx j u hu => hg.cell (h i x hx j u hu) (fun e => hr b e.symm ha)⟩
  · exact .inr h
theorem SlA.grown (h : SlA s C w A v xs) (hg : w.grownBy w' none) : SlA s C w' A v xs := h.kept hg (fun b e => by cases e)
theorem sla_open (h : SlA s C w A v xs) : ∃ ao c, v = .slice ao xs.length c := by
  rcases h with ⟨b, off, cap, _, rfl, _⟩ | ⟨ao, cap, rfl, rfl⟩
  · exact ⟨_, _, rfl⟩
  · exact ⟨_, _, rfl⟩
theorem sla_at {ao : Option Addr} {n c : Nat} (h : SlA s C w A (.slice ao n c) xs) {i : Nat} {x : α} (hx : xs[i]? = some x) : ∃ b off, ao = some ⟨b, off, none⟩ ∧ A b ∧ w.rangeAt b (off + i * s) (C x) := by
  rcases h with ⟨b, off, cap, ha, e, h⟩ | ⟨_, _, _, rfl⟩
  · simp only [Value.slice.injEq] at e
    exact ⟨b, off, e.1, ha, h i x hx⟩
  · simp at hx
end

def AnyB : Nat → Prop := fun _ => True
/-- Tones that lie one behind the other. -/
abbrev TosA := SlA 5 Tone.cells
def Tos (w : World) (v : Value) (ts : List Tone) : Prop := TosA w AnyB v ts
theorem TosA.tos {w : World} {A : Nat → Prop} {v : Value} {ts : List Tone} (h : TosA w A v ts) : Tos w v ts := SlA.mono h (fun _ _ => trivial)
theorem Tos.grown {w w' : World} {v : Value} {ts : List Tone} (h : Tos w v ts) (hg : w.grownBy w' none) : Tos w' v ts := SlA.grown h hg

/-! ### rows of the call's own -/
def flC {α : Type} (C : α → List Value) (xs : List α) : List Value := xs.flatMap C
section
variable {α : Type} {s : Nat} {C : α → List Value}
theorem flC_len (hC : ∀ x, (C x).length = s) (xs : List α) : (flC C xs).length = xs.length * s := by
  induction xs with
  | nil => simp [flC]
  | cons x xs ih =>
    have : flC C (x :: xs) = C x ++ flC C xs := rfl
    rw [this, List.length_append, hC, ih, List.length_cons, Nat.add_mul]
    omega
theorem flC_append (xs ys : List α) : flC C (xs ++ ys) = flC C xs ++ flC C ys := by simp [flC]
theorem flC_get (hC : ∀ x, (C x).length = s) : ∀ (xs : List α) (i : Nat) (x : α), xs[i]? = some x → ∀ j, j < s → (flC C xs)[i * s + j]? = (C x)[j]?
  | [], i, x, h, _, _ => by simp at h
  | a :: xs, 0, x, h, j, hj => by
    simp at h
    subst h
    have : flC C (a :: xs) = C a ++ flC C xs := rfl
    rw [this, Nat.zero_mul, Nat.zero_add, List.getElem?_append_left (by rw [hC]; exact hj)]
  | a :: xs, i + 1, x, h, j, hj => by
    have ih := flC_get hC xs i x (by simpa using h) j hj
    have : flC C (a :: xs) = C a ++ flC C xs := rfl
    have e : (i + 1) * s + j = s + (i * s + j) := by rw [Nat.add_mul]; omega
    rw [this, e, List.getElem?_append_right (by rw [hC]; omega), hC, Nat.add_sub_cancel_left]
    exact ih
theorem flC_split (hC : ∀ x, (C x).length = s) (hs : 0 < s) {xs : List α} {j : Nat} {u : Value} (h : (flC C xs)[j]? = some u) : ∃ x, xs[j / s]? = some x ∧ (C x)[j % s]? = some u := by
  have hj : j < (flC C xs).length := (List.getElem?_eq_some_iff.1 h).1
  rw [flC_len hC] at hj
  have hi : j / s < xs.length := Nat.div_lt_of_lt_mul (by rw [Nat.mul_comm]; exact hj)
  refine ⟨xs[j / s], List.getElem?_eq_getElem hi, ?_⟩
  rw [← flC_get hC xs (j / s) _ (List.getElem?_eq_getElem hi) (j % s) (Nat.mod_lt _ hs), Nat.div_add_mod']
  exact h

/-- A row of the call's own reads as what was put there. -/
theorem sla_of_own (hC : ∀ x, (C x).length = s) {w : World} {B : Nat} {e : TypeId} {v : Value} {xs : List α} (h : w.ownsRow B e s v xs.length (flC C xs)) (A : Nat → Prop) (hA : ∀ b, v.ownBlock = some b → A b) : SlA s C w A v xs := by
  rcases h.2 with ⟨rfl, hn⟩ | ⟨g, cap, cur, rfl, _, hgg, hc, hm1, hsz, ht⟩
  · exact .inr ⟨none, 0, rfl, List.eq_nil_of_length_eq_zero hn⟩
  · refine .inl ⟨g, 0, cap, hA g rfl, rfl, fun i x hx j u hu => ?_⟩
    have hj : j < s := by have := (List.getElem?_eq_some_iff.1 hu).1; rw [hC] at this; exact this
    have hi : i < xs.length := (List.getElem?_eq_some_iff.1 hx).1
    have h1 := flC_get hC xs i x hx j hj
    have hlt : i * s + j < xs.length * s := by
      have : (i + 1) * s ≤ xs.length * s := Nat.mul_le_mul_right _ hi
      rw [Nat.add_mul] at this
      omega
    rw [hu, ← ht, List.getElem?_take, if_pos hlt, Array.getElem?_toList] at h1
    rw [Nat.zero_add, cell_of hgg]
    exact h1
end

theorem own_base {w : World} {B : Nat} {e : TypeId} {sz : Nat} {v : Value} {n : Nat} {xs : List Value} (h : w.ownsRow B e sz v n xs) {b : Nat} (hb : v.ownBlock = some b) : B ≤ b ∧ b < w.heap.size := by
  rcases h.2 with ⟨rfl, _⟩ | ⟨b', cap, cur, rfl, hB, hg, _⟩
  · cases hb
  · injection hb with hb
    subst hb
    exact ⟨hB, lt_of hg⟩
theorem own_kept {w w' : World} {B : Nat} {e : TypeId} {sz : Nat} {v : Value} {n : Nat} {xs : List Value} (h : w.ownsRow B e sz v n xs) (hg : w.grownBy w' none) : w'.ownsRow B e sz v n xs := h.kept hg (by cases v.ownBlock <;> simp)
theorem own_fr {X : Nat → Prop} {w w' : World} {B : Nat} {e : TypeId} {sz : Nat} {v : Value} {n : Nat} {xs : List Value} (h : w.ownsRow B e sz v n xs) (hf : Fr X w w') (hx : ∀ b, v.ownBlock = some b → ¬ X b) : w'.ownsRow B e sz v n xs := by
  refine ⟨h.1, ?_⟩
  rcases h.2 with h | ⟨g, cap, cur, rfl, hb, hgg, rest⟩
  · exact .inl h
  · exact .inr ⟨g, cap, cur, rfl, hb, hf.row hgg (hx g rfl), rest⟩
theorem own_slice {w : World} {B : Nat} {e : TypeId} {sz : Nat} {v : Value} {n : Nat} {xs : List Value} (h : w.ownsRow B e sz v n xs) : ∃ ao c, v = .slice ao n c := by
  rcases h.2 with ⟨rfl, rfl⟩ | ⟨g, cap, cur, rfl, _⟩
  · exact ⟨_, _, rfl⟩
  · exact ⟨_, _, rfl⟩
theorem row_kept {a b : World} {row : Option Nat} (h : a.grownBy b row) {i : Nat} {o : Obj} (hi : a.heap[i]? = some o) (hr : some i ≠ row) : b.heap[i]? = some o := by
  rw [h.block i (lt_of hi) hr]
  exact hi
theorem grown_own {a b c : World} {r : Option Nat} {B : Nat} {e : TypeId} {sz : Nat} {v : Value} {n : Nat} {xs : List Value} (h : a.grownBy b r) (ho : b.ownsRow B e sz v n xs) (hB : a.heap.size ≤ B) (g : b.grownBy c v.ownBlock) : a.grownBy c r := by
  cases hv : v.ownBlock with
  | none => rw [hv] at g; exact grown_trans h (grown_none g _)
  | some k => rw [hv] at g; exact grown_from h g (.inl (Nat.le_trans hB (own_base ho hv).1))

theorem tone_len (t : Tone) : t.cells.length = 5 := rfl
theorem tone_one (ts : List Tone) : ∀ u ∈ flC Tone.cells ts, u.oneCell' = true := by
  intro u hu
  simp only [flC, List.mem_flatMap] at hu
  obtain ⟨e, _, hu⟩ := hu
  simp only [Tone.cells, List.mem_cons, List.not_mem_nil, or_false] at hu
  rcases hu with rfl | rfl | rfl | rfl | rfl <;> rfl

end Go.Proofs.Ytdnmimfichijgaa.KRead
