/- An argument's reading, opened: slices, structs, by their leaves. Plain laws over any program. -/
import Derived.Test.YtdnmimfichijgaaRd
import Derived.Deep.Slices
import Derived.ChangeArms
import Derived.ChangeOld
import Derived.ProofKit
import Derived.SizedLaws
namespace Go.Proofs.Ytdnmimfichijgaa.Opn
open Go Go.RowKit Go.Deep Go.WideShapes Go.Proofs.Ytdnmimfichijgaa.Hp Go.Proofs.Ytdnmimfichijgaa.Rd

section
variable {H : Type} {enc : TypeId × Value → H} {P : Program} {w : World} {base : Nat} {spare : Nat → Bool} {held : Bool} {fuel : Nat} {t e : TypeId} {cs : List Value} {x : DataW H × List MemPlace}

theorem trod_float {k : FloatKind} (ht : P.underlying t = some (.float k)) (h : DataW.trod enc P w base spare held fuel t cs = some x) : ∃ n, cs = [.float k n] ∧ x = (.lit (.float k n), []) ∧ (Lit.float k n).wf = true := by
  cases fuel with
  | zero => simp [DataW.trod] at h
  | succ m =>
    unfold DataW.trod at h
    rw [ht] at h
    simp only at h
    split at h <;> simp_all

/-- What a datum holds, by hand. -/
def flt : DataW H → Nat
  | .lit (.float _ b) => b
  | _ => 0
def int : DataW H → Int
  | .lit (.int _ n) => n
  | _ => 0
def boo : DataW H → Bool
  | .lit (.bool b) => b
  | _ => false
def els : DataW H → List (DataW H)
  | .slice l _ => l
  | _ => []
def spa : DataW H → List (DataW H)
  | .slice _ l => l
  | _ => []
def par : DataW H → List (DataW H)
  | .agg l => l
  | _ => []

/-- A slice whose elements take s cells each. -/
def Slc {α : Type} (s : Nat) (R : World → List Value → α → Prop) (w : World) (v : Value) (xs : List α) : Prop :=
  (∃ b off cap, v = .slice (some ⟨b, off, none⟩) xs.length cap ∧ ∀ i x, xs[i]? = some x → ∃ cs : List Value, cs.length = s ∧ (∀ j u, cs[j]? = some u → w.cell? ⟨b, off + (i * s + j), none⟩ = some u) ∧ R w cs x) ∨ (∃ ao cap, v = .slice ao 0 cap ∧ xs = [])

theorem Slc.grown {α : Type} {s : Nat} {R : World → List Value → α → Prop} {w w' : World} {v : Value} {xs : List α} (h : Slc s R w v xs) (hg : w.grownBy w' none) (hR : ∀ u x, R w u x → R w' u x) : Slc s R w' v xs := by
  rcases h with ⟨b, off, cap, rfl, h⟩ | h
  · exact .inl ⟨b, off, cap, rfl, fun i x hx => let ⟨cs, h1, h2, h3⟩ := h i x hx; ⟨cs, h1, fun j u hu => hg.cell (h2 j u hu) (by simp), hR _ _ h3⟩⟩
  · exact .inr h

theorem slc_of_trod {α : Type} {R : World → List Value → α → Prop} (f : DataW H → α) {s : Nat} (hs : 0 < s) (ht : P.underlying t = some (.slice e)) (hC : P.cellsOf e = s) {v : Value} {d : DataW H} {p : List MemPlace}
    (hv : ∃ a len cap, v = .slice a len cap) (h : DataW.Trod enc P w base spare held t v d p) (hR : ∀ n cs d p, DataW.trod enc P w base spare held n e cs = some (d, p) → cs.length = s → R w cs (f d)) :
    Slc s R w v ((els d).map f) ∧ (∃ a len cap, v = .slice a len cap ∧ len = (els d).length ∧ len ≤ cap ∧ (spare = (fun _ => true) → cap = (els d).length + (spa d).length)) := by
  obtain ⟨a0, len0, cap0, rfl⟩ := hv
  obtain ⟨fuel, hf⟩ := h
  rcases open_slice ht hf with ⟨hc, hx⟩ | ⟨a, len, cap, m, n, D, Pl, hc, hb, hl, hm, hmm, hx, hel⟩
  · simp only [Value.cells, List.cons.injEq, and_true, Value.slice.injEq] at hc
    obtain ⟨rfl, rfl, rfl⟩ := hc
    simp only [Prod.mk.injEq] at hx
    rw [hx.1]
    exact ⟨.inr ⟨none, 0, rfl, rfl⟩, none, 0, 0, rfl, rfl, Nat.le_refl _, fun _ => rfl⟩
  · simp only [Value.cells, List.cons.injEq, and_true, Value.slice.injEq] at hc
    obtain ⟨rfl, rfl, rfl⟩ := hc
    simp only [Prod.mk.injEq] at hx
    obtain ⟨hd, _⟩ := hx
    have hle : len0 ≤ m := by rw [hmm]; split <;> omega
    have he : els d = (List.range len0).map D := by rw [hd]; rfl
    have hlen : (els d).length = len0 := by rw [he]; simp
    refine ⟨?_, some a, len0, cap0, rfl, hlen.symm, hl, fun hsp => ?_⟩
    · by_cases h0 : len0 = 0
      · subst h0
        exact .inr ⟨some a, cap0, rfl, by rw [he]; rfl⟩
      · obtain ⟨cs0, hc0, _⟩ := hel 0 (by omega)
        rw [hC] at hc0
        obtain ⟨_, hl0, hat0⟩ := World.cells?_some hc0
        have hsp : a.spot = none := by
          have h1 := hat0 0 hs
          rw [List.getElem?_eq_getElem (by omega)] at h1
          have h2 := World.cell?_spot h1
          unfold Addr.add at h2
          cases hsa : a.spot <;> simp_all
        refine .inl ⟨a.block, a.off, cap0, ?_, fun i x hx => ?_⟩
        · rw [List.length_map, hlen]
          congr 2
          cases a
          simp_all
        · rw [he, List.map_map, List.getElem?_map] at hx
          have hi : i < len0 := by
            rcases Nat.lt_or_ge i len0 with h | h
            · exact h
            · rw [List.getElem?_eq_none (by simpa using h)] at hx; simp at hx
          rw [List.getElem?_range hi] at hx
          simp only [Option.map_some, Function.comp, Option.some.injEq] at hx
          obtain ⟨cs', hc', ht'⟩ := hel i (by omega)
          rw [hC] at hc'
          obtain ⟨_, hl', hat⟩ := World.cells?_some hc'
          refine ⟨cs', hl', fun j u hu => ?_, hx ▸ hR _ _ _ _ ht' hl'⟩
          have hj : j < s := by have := (List.getElem?_eq_some_iff.1 hu).1; omega
          have h1 := hat j hj
          rw [hu] at h1
          rw [← h1]
          obtain ⟨ab, aoff, asp⟩ := a
          simp only at hsp
          subst hsp
          rw [Addr.add_lit, Addr.add_lit, Nat.add_assoc]
    · rw [hd]
      simp only [els, spa, List.length_map, List.length_range]
      rw [hsp] at hmm
      simp at hmm
      omega

theorem sl_of_slc {α : Type} {R : World → Value → α → Prop} {v : Value} {xs : List α} (h : Slc 1 (fun w cs x => ∃ u, cs = [u] ∧ R w u x) w v xs) : Sl R w v xs := by
  rcases h with ⟨b, off, cap, rfl, h⟩ | h
  · refine .inl ⟨b, off, cap, rfl, fun i x hx => ?_⟩
    obtain ⟨cs, _, h2, u, rfl, h3⟩ := h i x hx
    exact ⟨u, by simpa using h2 0 u rfl, h3⟩
  · exact .inr h

/-- A slice of one-cell elements. -/
theorem sl_of_trod {α : Type} {R : World → Value → α → Prop} (f : DataW H → α) (ht : P.underlying t = some (.slice e)) (hC : P.cellsOf e = 1) {v : Value} {d : DataW H} {p : List MemPlace}
    (hv : ∃ a len cap, v = .slice a len cap) (h : DataW.Trod enc P w base spare held t v d p) (hR : ∀ n u d p, DataW.trod enc P w base spare held n e [u] = some (d, p) → R w u (f d)) : Sl R w v ((els d).map f) :=
  sl_of_slc (slc_of_trod f (by omega) ht hC hv h (fun n cs d p h1 h2 => by
    match cs, h2 with
    | [u], _ => exact ⟨u, rfl, hR n u d p h1⟩)).1

theorem fls_of_trod (ht : P.underlying t = some (.slice e)) (hC : P.cellsOf e = 1) (he : P.underlying e = some (.float .f64)) {v : Value} {d : DataW H} {p : List MemPlace}
    (hv : ∃ a len cap, v = .slice a len cap) (h : DataW.Trod enc P w base spare held t v d p) : Fls w v ((els d).map flt) :=
  sl_of_trod flt ht hC hv h fun n u d p h => by
    obtain ⟨b, hu, hx, _⟩ := trod_float he h
    simp only [List.cons.injEq, and_true, Prod.mk.injEq] at hu hx
    rw [hu, hx.1]
    rfl

theorem slice_of_trod {v : Value} {d : DataW H} {p : List MemPlace} {n : Nat} (ht : P.underlying t = some (.slice e)) (h : DataW.trod enc P w base spare held n t [v] = some (d, p)) : ∃ a len cap, v = .slice a len cap := by
  rcases open_slice ht h with ⟨hc, _⟩ | ⟨a, len, cap, _, _, _, _, hc, _⟩
  · simp at hc; exact ⟨_, _, _, hc⟩
  · simp at hc; exact ⟨_, _, _, hc⟩

theorem trod_cell {v : Value} {d : DataW H} {p : List MemPlace} {n : Nat} (hv : v.cells.toList = [v]) (h : DataW.trod enc P w base spare held n t [v] = some (d, p)) : DataW.Trod enc P w base spare held t v d p := ⟨n, by rw [hv]; exact h⟩

theorem lls_of_trod {e' : TypeId} (ht : P.underlying t = some (.slice e)) (hC : P.cellsOf e = 1) (he : P.underlying e = some (.slice e')) (hC' : P.cellsOf e' = 1) (he' : P.underlying e' = some (.float .f64)) {v : Value} {d : DataW H} {p : List MemPlace}
    (hv : ∃ a len cap, v = .slice a len cap) (h : DataW.Trod enc P w base spare held t v d p) : Lls w v ((els d).map fun d => (els d).map flt) :=
  sl_of_trod (fun d => (els d).map flt) ht hC hv h fun n u d p h => by
    obtain ⟨a, len, cap, rfl⟩ := slice_of_trod he h
    exact fls_of_trod he hC' he' ⟨a, len, cap, rfl⟩ (trod_cell rfl h)

theorem ils_of_trod (ht : P.underlying t = some (.slice e)) (hC : P.cellsOf e = 1) (he : P.underlying e = some (.int .i64)) {v : Value} {d : DataW H} {p : List MemPlace}
    (hv : ∃ a len cap, v = .slice a len cap) (h : DataW.Trod enc P w base spare held t v d p) : Ils w v ((els d).map int) :=
  sl_of_trod int ht hC hv h fun n u d p h => by
    obtain ⟨b, hu, hx, _⟩ := DataW.trod_int he h
    simp only [List.cons.injEq, and_true, Prod.mk.injEq] at hu hx
    rw [hu, hx.1]
    rfl

/-! ### a struct, by its leaves -/

/-- The cells that hold no struct: where each lies, of what type. -/
def leaves (P : Program) : Nat → TypeId → Nat → List (Nat × TypeId)
  | 0, t, o => [(o, t)]
  | d + 1, t, o =>
    match P.underlying t with
    | some (.struct fs) => fs.toList.flatMap fun f => leaves P d f.type (o + f.offset)
    | _ => [(o, t)]

/-- Each field lies within its struct. -/
def within (P : Program) : Nat → TypeId → Bool
  | 0, _ => true
  | d + 1, t =>
    match P.underlying t with
    | some (.struct fs) => fs.toList.all fun f => decide (f.offset + P.cellsOf f.type ≤ P.cellsOf t) && within P d f.type
    | _ => true

theorem leaves_of_trod (big : List Value) : ∀ (d : Nat) (t : TypeId) (o : Nat) (fuel : Nat) (x : DataW H × List MemPlace), within P d t = true →
    DataW.trod enc P w base spare held fuel t ((big.drop o).take (P.cellsOf t)) = some x →
    ∀ q ∈ leaves P d t o, ∃ n y, DataW.trod enc P w base spare held n q.2 ((big.drop q.1).take (P.cellsOf q.2)) = some y := by
  intro d
  induction d with
  | zero =>
    intro t o fuel x _ h q hq
    simp only [leaves, List.mem_singleton] at hq
    subst hq
    exact ⟨fuel, x, h⟩
  | succ d ih =>
    intro t o fuel x hw h q hq
    unfold leaves at hq
    unfold within at hw
    split at hq
    · rename_i fs hfs
      rw [hfs] at hw
      simp only [List.all_eq_true, Bool.and_eq_true, decide_eq_true_eq] at hw
      obtain ⟨f, hf, hq⟩ := List.mem_flatMap.1 hq
      obtain ⟨h1, h2⟩ := hw f hf
      obtain ⟨xs, n, _, _, _, hlen, hg⟩ := DataW.trod_struct hfs h
      obtain ⟨i, hi, hfi⟩ := List.getElem_of_mem hf
      have hi' : fs[i]? = some f := by
        rw [← Array.getElem?_toList, List.getElem?_eq_getElem hi, hfi]
      have h3 := hg i f hi'
      have hix : i < xs.length := by simpa [hlen] using hi
      rw [List.getElem?_eq_getElem hix] at h3
      have e1 : (((big.drop o).take (P.cellsOf t)).drop f.offset).take (P.cellsOf f.type) = (big.drop (o + f.offset)).take (P.cellsOf f.type) := by
        rw [List.drop_take, List.take_take, List.drop_drop, Nat.min_eq_left (by omega)]
      rw [e1] at h3
      exact ih f.type (o + f.offset) n _ h2 h3 q hq
    · simp only [List.mem_singleton] at hq
      subst hq
      exact ⟨fuel, x, h⟩

end
end Go.Proofs.Ytdnmimfichijgaa.Opn
