/- Lists that lie in memory: a slice that reads as a list; rows that the call itself has made; a frame by the rows' types. Plain laws over any program. -/
import Derived.Test.YtdnmimfichijgaaHp
import Derived.Maps.AppendAt
namespace Go.Proofs.Ytdnmimfichijgaa.Rd
open Go Go.RowKit Go.Proofs.Ytdnmimfichijgaa.Hp

/-! ### a frame: below block B, and in rows of other types than S, nothing has turned -/

structure Gr (B : Nat) (S : List TypeId) (w w' : World) : Prop where
  os : w'.os = w.os
  tape : w'.tape = w.tape
  output : w'.output = w.output
  size : w.heap.size ≤ w'.heap.size
  block : ∀ k, k < w.heap.size → (k < B ∨ ∀ c e z, w.heap[k]? = some (.cells c e z) → e ∉ S) → w'.heap[k]? = w.heap[k]?

section
variable {B : Nat} {S : List TypeId} {a b c : World}

theorem Gr.refl (B : Nat) (S : List TypeId) (w : World) : Gr B S w w := ⟨rfl, rfl, rfl, Nat.le_refl _, fun _ _ _ => rfl⟩

theorem Gr.trans (h : Gr B S a b) (k : Gr B S b c) : Gr B S a c :=
  ⟨k.os.trans h.os, k.tape.trans h.tape, k.output.trans h.output, Nat.le_trans h.size k.size, fun i hi hr => by
    have e := h.block i hi hr
    rw [k.block i (Nat.lt_of_lt_of_le hi h.size) (by rw [e]; exact hr)]
    exact e⟩

theorem Gr.of_none (h : a.grownBy b none) : Gr B S a b := ⟨h.os, h.tape, h.output, h.size, fun i hi _ => h.block i hi (by simp)⟩

theorem Gr.of_some {k : Nat} {cs : Array Value} {e : TypeId} {z : Nat × Nat} (h : a.grownBy b (some k)) (hk : a.heap[k]? = some (.cells cs e z)) (he : e ∈ S) (hB : B ≤ k) : Gr B S a b :=
  ⟨h.os, h.tape, h.output, h.size, fun i hi hr => h.block i hi (by
    intro hik
    simp only [Option.some.injEq] at hik
    subst hik
    rcases hr with hr | hr
    · omega
    · exact hr _ _ _ hk he)⟩

/-- .. of what is written lies behind all that was there. -/
theorem Gr.of_new {k : Nat} (h : a.grownBy b (some k)) (hk : a.heap.size ≤ k) : Gr B S a b := .of_none (grown_new h hk)

theorem Gr.of_row {r : Option Nat} {e : TypeId} (h : a.grownBy b r) (hr : ∀ k, r = some k → B ≤ k ∧ (a.heap.size ≤ k ∨ ∃ c z, a.heap[k]? = some (.cells c e z))) (he : e ∈ S) : Gr B S a b := by
  cases r with
  | none => exact .of_none h
  | some k =>
    obtain ⟨h1, h2 | ⟨c, z, h2⟩⟩ := hr k rfl
    · exact .of_new h h2
    · exact .of_some h h2 he h1

theorem Gr.drewN (h : Gr B S a b) (n : Nat) : Gr B S a (b.drewN n) := ⟨h.os, h.tape, h.output, h.size, h.block⟩
theorem Gr.drew (h : Gr B S a b) : Gr B S a b.drew := ⟨h.os, h.tape, h.output, h.size, h.block⟩
theorem Gr.alloc (h : Gr B S a b) (o : Obj) : Gr B S a (b.alloc o) := h.trans (.of_none (grown_alloc (grown_refl _ _) o))

theorem Gr.set (h : Gr B S a b) {p : Addr} {cs : Array Value} {e : TypeId} {z : Nat × Nat} (hk : b.heap[p.block]? = some (.cells cs e z)) (he : e ∈ S) (hB : B ≤ p.block) (v : Value) : Gr B S a (b.setCell p v) :=
  h.trans (.of_some (grown_set (grown_refl b (some p.block)) (.inl rfl) v) hk he hB)

/-- Seen from where the call began: all that was there is as it was. -/
theorem Gr.none (h : Gr a.heap.size S a b) : a.grownBy b none := ⟨h.os, h.tape, h.output, h.size, fun i hi _ => h.block i hi (.inl hi)⟩

theorem Gr.keep (h : Gr B S a b) {k : Nat} {cs : Array Value} {e : TypeId} {z : Nat × Nat} (hk : a.heap[k]? = some (.cells cs e z)) (he : e ∉ S) : b.heap[k]? = some (.cells cs e z) := by
  rw [h.block k (lt_of hk) (.inr fun c' e' z' h' => by rw [hk] at h'; cases h'; exact he)]
  exact hk

theorem Gr.old (h : Gr B S a b) {k : Nat} {o : Obj} (hk : a.heap[k]? = some o) (hB : k < B) : b.heap[k]? = some o := by
  rw [h.block k (lt_of hk) (.inl hB)]
  exact hk

theorem Gr.more {S' : List TypeId} (h : Gr B S a b) (hs : ∀ e, e ∈ S → e ∈ S') : Gr B S' a b :=
  ⟨h.os, h.tape, h.output, h.size, fun i hi hr => h.block i hi (hr.imp id fun hr c e z hk hm => hr c e z hk (hs e hm))⟩
end

/-! ### a slice that reads as a list -/

section
variable {α : Type}

/-- The slice v reads as the list xs, each element by R, one cell each. -/
def Sl (R : World → Value → α → Prop) (w : World) (v : Value) (xs : List α) : Prop :=
  (∃ b off cap, v = .slice (some ⟨b, off, none⟩) xs.length cap ∧ ∀ i x, xs[i]? = some x → ∃ u, w.cell? ⟨b, off + i, none⟩ = some u ∧ R w u x) ∨ (∃ ao cap, v = .slice ao 0 cap ∧ xs = [])

theorem Sl.grown {R : World → Value → α → Prop} {w w' : World} {v : Value} {xs : List α} (h : Sl R w v xs) (hg : w.grownBy w' none) (hR : ∀ u x, R w u x → R w' u x) : Sl R w' v xs := by
  rcases h with ⟨b, off, cap, rfl, h⟩ | h
  · exact .inl ⟨b, off, cap, rfl, fun i x hx => let ⟨u, hu, hr⟩ := h i x hx; ⟨u, hg.cell hu (by simp), hR _ _ hr⟩⟩
  · exact .inr h

theorem Sl.imp {R R' : World → Value → α → Prop} {w : World} {v : Value} {xs : List α} (h : Sl R w v xs) (hR : ∀ u x, R w u x → R' w u x) : Sl R' w v xs := by
  rcases h with ⟨b, off, cap, rfl, h⟩ | h
  · exact .inl ⟨b, off, cap, rfl, fun i x hx => let ⟨u, hu, hr⟩ := h i x hx; ⟨u, hu, hR _ _ hr⟩⟩
  · exact .inr h

/-- .. its address open. -/
theorem sl_open {R : World → Value → α → Prop} {w : World} {v : Value} {xs : List α} (h : Sl R w v xs) : ∃ ao cap, v = .slice ao xs.length cap ∧ ∀ (i : Nat) (x : α), xs[i]? = some x → ∃ b off u, ao = some ⟨b, off, none⟩ ∧ w.cell? ⟨b, off + i, none⟩ = some u ∧ R w u x := by
  rcases h with ⟨b, off, cap, rfl, h⟩ | ⟨ao, cap, rfl, rfl⟩
  · exact ⟨some ⟨b, off, none⟩, cap, rfl, fun i x hx => let ⟨u, h1, h2⟩ := h i x hx; ⟨b, off, u, rfl, h1, h2⟩⟩
  · exact ⟨ao, cap, rfl, fun i x hx => by simp at hx⟩

/-- A slice of floats. -/
def Fls : World → Value → List Nat → Prop := Sl fun _ u x => u = .float .f64 x
/-- A slice of slices of floats. -/
def Lls : World → Value → List (List Nat) → Prop := Sl Fls
/-- A slice of ints. -/
def Ils : World → Value → List Int → Prop := Sl fun _ u x => u = .int .i64 x

theorem Fls.grown {w w' : World} {v : Value} {xs : List Nat} (h : Fls w v xs) (hg : w.grownBy w' none) : Fls w' v xs := Sl.grown h hg fun _ _ h => h
theorem Ils.grown {w w' : World} {v : Value} {xs : List Int} (h : Ils w v xs) (hg : w.grownBy w' none) : Ils w' v xs := Sl.grown h hg fun _ _ h => h
theorem Lls.grown {w w' : World} {v : Value} {xs : List (List Nat)} (h : Lls w v xs) (hg : w.grownBy w' none) : Lls w' v xs := Sl.grown h hg fun _ _ h => h.grown hg

end

/-! ### a row of floats that the call has made -/

/-- v is a slice over the whole of a new row of type t that holds just these. -/
def Own (t : TypeId) (w : World) (v : Value) (cs : List Value) : Prop := ∃ g, v = .slice (some ⟨g, 0, none⟩) cs.length cs.length ∧ w.heap[g]? = some (.cells cs.toArray t (0, 0))

theorem Own.gr {B : Nat} {S : List TypeId} {t : TypeId} {w w' : World} {v : Value} {cs : List Value} (h : Own t w v cs) (hg : Gr B S w w') (ht : t ∉ S) : Own t w' v cs :=
  let ⟨g, h1, h2⟩ := h; ⟨g, h1, hg.keep h2 ht⟩

theorem Own.fls {t : TypeId} {w : World} {v : Value} {ys : List Nat} (h : Own t w v (ys.map (Value.float .f64))) : Fls w v ys := by
  obtain ⟨g, rfl, h2⟩ := h
  refine .inl ⟨g, 0, (ys.map (Value.float .f64)).length, by simp, fun i x hx => ⟨.float .f64 x, ?_, rfl⟩⟩
  rw [cell_of h2]
  simp [hx]

/-- What is owned, as cells. -/
theorem owns_cells {w : World} {base : Nat} {e : TypeId} {v : Value} {n : Nat} {xs : List Value} (h : w.ownsRow base e 1 v n xs) :
    (v = .slice none 0 0 ∧ n = 0 ∧ xs = []) ∨ ∃ g cap, v = .slice (some ⟨g, 0, none⟩) n cap ∧ base ≤ g ∧ n ≤ cap ∧ (∃ c, w.heap[g]? = some (.cells c e (0, 0))) ∧ ∀ i x, xs[i]? = some x → w.cell? ⟨g, i, none⟩ = some x := by
  obtain ⟨h1, ⟨h2, h3⟩ | ⟨g, cap, cur, hv, hb, hg, hc, hm, hs, ht⟩⟩ := h
  · exact .inl ⟨h2, h3, List.eq_nil_of_length_eq_zero (by rw [h1, h3])⟩
  · refine .inr ⟨g, cap, hv, hb, hc, ⟨cur, hg⟩, fun i x hx => ?_⟩
    rw [cell_of hg]
    rw [← ht, List.getElem?_take] at hx
    split at hx
    · simpa using hx
    · cases hx

theorem owns_gr {B : Nat} {S : List TypeId} {w w' : World} {base : Nat} {e : TypeId} {v : Value} {n : Nat} {xs : List Value} (h : w.ownsRow base e 1 v n xs) (hg : Gr B S w w') (he : e ∉ S) : w'.ownsRow base e 1 v n xs := by
  refine ⟨h.1, ?_⟩
  rcases h.2 with hn | ⟨g, cap, cur, hv, hb, hgg, rest⟩
  · exact .inl hn
  · exact .inr ⟨g, cap, cur, hv, hb, hg.keep hgg he, rest⟩

/-- The row that an append may write is of the type that is told. -/
theorem Gr.of_append {B : Nat} {S : List TypeId} {w w' : World} {e : TypeId} {v : Value} {n : Nat} {xs : List Value} (h : w.ownsRow B e 1 v n xs) (hg : w.grownBy w' v.ownBlock) (he : e ∈ S) : Gr B S w w' := by
  rcases h.2 with ⟨hn, _⟩ | ⟨g, cap, cur, hv, hb, hgg, _⟩
  · subst hn
    exact .of_none hg
  · subst hv
    exact .of_some hg hgg he hb

theorem owns_sl {α : Type} {R : World → Value → α → Prop} {w : World} {base : Nat} {e : TypeId} {v : Value} {n : Nat} {vs : List Value} {xs : List α} (h : w.ownsRow base e 1 v n vs) (hl : vs.length = xs.length) (hR : ∀ (i : Nat) (u : Value) (x : α), vs[i]? = some u → xs[i]? = some x → R w u x) : Sl R w v xs := by
  have hn : vs.length = n := by have := h.1; simpa using this
  rcases owns_cells h with ⟨rfl, rfl, rfl⟩ | ⟨g, cap, rfl, _, _, _, hc⟩
  · exact .inr ⟨none, 0, rfl, List.eq_nil_of_length_eq_zero (by simpa using hl.symm)⟩
  · refine .inl ⟨g, 0, cap, by rw [← hl, hn], fun i x hx => ?_⟩
    have hi : i < vs.length := by rw [hl]; exact (List.getElem?_eq_some_iff.1 hx).1
    exact ⟨vs[i], by rw [Nat.zero_add]; exact hc i _ (List.getElem?_eq_getElem hi), hR i _ x (List.getElem?_eq_getElem hi) hx⟩

end Go.Proofs.Ytdnmimfichijgaa.Rd
