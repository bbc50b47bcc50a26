/- The rounds in which the reference fills its table of samples: plain. -/
import Derived.Test.YtdliilmnfbgplaaGRSamp
namespace Go.Proofs.Ytdliilmnfbgplaa.GRFullP
open Go Go.Proofs.Ytdliilmnfbgplaa.Fl Go.Proofs.Ytdliilmnfbgplaa.GMod Go.Proofs.Ytdliilmnfbgplaa.GOrd Go.Proofs.Ytdliilmnfbgplaa.GSol Go.Proofs.Ytdliilmnfbgplaa.GRAllP Go.Proofs.Ytdliilmnfbgplaa.GRSamp
set_option linter.unusedVariables false
set_option linter.unusedSimpArgs false

/-- All nodes, each behind what it listens to (but a delay). -/
structure Topo (g : Gd) (L : List Nat) : Prop where
  all : ∀ i, i < g.nodes.length → i ∈ L
  lt : ∀ i ∈ L, i < g.nodes.length
  len : L.length ≤ g.nodes.length
  pre : ∀ l1 i l2, L = l1 ++ i :: l2 → ∀ x, g.nodes[i]? = some x → x.kind ≠ 6 → ∀ k ∈ x.from_, k.toNat ∈ l1
theorem topo_of {g : Gd} {order : List Nat} (h : Sorted g order) (hr : ∀ x ∈ g.nodes, ∀ k ∈ x.from_, 0 ≤ k ∧ k < (g.nodes.length : Int)) : Topo g ((List.range g.nodes.length).filter (isD g) ++ order) := by
  have hmem : ∀ i, i ∈ (List.range g.nodes.length).filter (isD g) ↔ (i < g.nodes.length ∧ isD g i = true) := fun i => by rw [List.mem_filter, List.mem_range]
  refine ⟨fun i hi => ?_, fun i hi => ?_, ?_, fun l1 i l2 he x hx hk k hkm => ?_⟩
  · rw [List.mem_append]
    cases hd : isD g i with
    | true => exact .inl ((hmem i).2 ⟨hi, hd⟩)
    | false => exact .inr ((h.mem i).2 ⟨hi, hd⟩)
  · rw [List.mem_append] at hi
    rcases hi with hi | hi
    · exact ((hmem i).1 hi).1
    · exact ((h.mem i).1 hi).1
  · have hn : ((List.range g.nodes.length).filter (isD g) ++ order).Nodup := by
      rw [List.nodup_append]
      refine ⟨List.nodup_range.sublist List.filter_sublist, h.nodup, fun a ha b hb e => ?_⟩
      subst e
      have h1 := ((hmem a).1 ha).2
      rw [((h.mem a).1 hb).2] at h1
      cases h1
    have := List.Nodup.length_le_of_subset hn (l₂ := List.range g.nodes.length) (fun i hi => by
      rw [List.mem_range]
      rw [List.mem_append] at hi
      rcases hi with hi | hi
      · exact ((hmem i).1 hi).1
      · exact ((h.mem i).1 hi).1)
    rwa [List.length_range] at this
  · have hd : isD g i = false := by rw [isD_of hx]; exact decide_eq_false hk
    have hkr := hr x (List.mem_of_getElem? hx) k hkm
    have key : ∃ c, l1 = (List.range g.nodes.length).filter (isD g) ++ c ∧ order = c ++ i :: l2 := by
      rcases List.append_eq_append_iff.1 he with ⟨a, h1, h2⟩ | ⟨b, h1, h2⟩
      · exact ⟨a, h1, h2⟩
      · cases b with
        | nil => exact ⟨[], by rw [List.append_nil] at h1 ⊢; exact h1.symm, h2.symm⟩
        | cons y b =>
          have hy : y = i := by
            simp only [List.cons_append, List.cons.injEq] at h2
            exact h2.1.symm
          subst hy
          have : y ∈ (List.range g.nodes.length).filter (isD g) := by rw [h1]; simp
          rw [((hmem y).1 this).2] at hd
          cases hd
    obtain ⟨c, rfl, ho⟩ := key
    rw [List.mem_append]
    cases hdk : isD g k.toNat with
    | true => exact .inl ((hmem _).2 ⟨by omega, hdk⟩)
    | false => exact .inr (h.pre c i l2 ho _ (edge_of hx hk hkm) hdk)

/-- The table: of each row t samples, or one more. -/
def rowsQ (P : List (List Nat)) (t : Nat) (dn : List Bool) : List (List Nat) := List.zipWith (fun (d : Bool) l => l.take (if d = true then t + 1 else t)) dn P
section
variable {P : List (List Nat)} {t : Nat} {dn : List Bool}
theorem rq_len (h : dn.length = P.length) : (rowsQ P t dn).length = P.length := by unfold rowsQ; rw [List.length_zipWith, h, Nat.min_self]
theorem rq_at (h : dn.length = P.length) {i : Nat} {l : List Nat} (hl : P[i]? = some l) : (rowsQ P t dn)[i]? = some (l.take (if dn.getD i false = true then t + 1 else t)) := by
  have hi := (List.getElem?_eq_some_iff.1 hl).1
  unfold rowsQ
  rw [List.getElem?_zipWith, hl, List.getD_eq_getElem?_getD, List.getElem?_eq_getElem (by omega : i < dn.length)]
  rfl
theorem rq_getD (h : dn.length = P.length) {i : Nat} (hi : i < P.length) : (rowsQ P t dn).getD i [] = (P.getD i []).take (if dn.getD i false = true then t + 1 else t) := by
  rw [List.getD_eq_getElem?_getD, rq_at h (List.getElem?_eq_getElem hi), List.getD_eq_getElem?_getD (l := P), List.getElem?_eq_getElem hi]
  rfl
theorem rq_length (h : dn.length = P.length) {n : Nat} (hP : ∀ l ∈ P, l.length = n) (ht : t < n) {i : Nat} (hi : i < P.length) : ((rowsQ P t dn).getD i []).length = if dn.getD i false = true then t + 1 else t := by
  rw [rq_getD h hi, List.length_take, len_getD hP hi]
  split <;> omega
theorem rq_atP (h : dn.length = P.length) {i : Nat} (hi : i < P.length) {u : Int} (hu : u < (t : Int) ∨ dn.getD i false = true ∧ u ≤ (t : Int)) : atP (rowsQ P t dn) i u = atP P i u := by
  unfold atP
  by_cases h0 : u < 0
  · rw [if_pos h0, if_pos h0]
  · rw [if_neg h0, if_neg h0, rq_getD h hi, List.getD_eq_getElem?_getD, List.getElem?_take, if_pos, ← List.getD_eq_getElem?_getD]
    rcases hu with hu | ⟨h1, hu⟩
    · split <;> omega
    · rw [if_pos h1]
      omega
/-- A sample hangs on what is there. -/
theorem rq_smp {ins : List (List Nat)} {x : Nd} {i : Nat} {g : Gd} (h : dn.length = P.length) (hi : i < P.length) (hr : ∀ k ∈ x.from_, k.toNat < P.length) (hk : x.kind = 6 ∨ ∀ k ∈ x.from_, dn.getD k.toNat false = true) (h6 : x.kind = 6 → 1 ≤ x.n) (hone : x.kind = 3 ∨ x.kind = 6 ∨ x.kind = 7 → 1 ≤ x.from_.length) (htwo : x.kind = 5 → 2 ≤ x.from_.length) (he : x.kind = 1 ∨ x.kind = 2 ∨ x.kind = 3 ∨ x.kind = 4 ∨ x.kind = 5 ∨ x.kind = 6 ∨ x.kind = 7 ∨ x.kind = 8) :
    smpN (rowsQ P t dn) ins x i t = smpN P ins x i t := by
  have hf : ∀ j, j < x.from_.length → x.kind ≠ 6 → ∀ u : Int, u ≤ (t : Int) → atP (rowsQ P t dn) (fr x j) u = atP P (fr x j) u := fun j hj h6 u hu => by
    have hm := fr_mem hj
    exact rq_atP h (hr _ hm) (.inr ⟨(hk.resolve_left h6) _ hm, hu⟩)
  unfold smpN
  rcases he with e | e | e | e | e | e | e | e
  · rw [if_pos e, if_pos e]
  · rw [if_neg (by omega), if_pos e, if_neg (by omega), if_pos e]
  · rw [if_neg (by omega), if_neg (by omega), if_pos e, if_neg (by omega), if_neg (by omega), if_pos e, hf 0 (hone (.inl e)) (by omega) _ (Int.le_refl _)]
  · rw [if_neg (by omega), if_neg (by omega), if_neg (by omega), if_pos e, if_neg (by omega), if_neg (by omega), if_neg (by omega), if_pos e]
    congr 1
    apply List.map_congr_left
    intro k hkm
    exact rq_atP h (hr k hkm) (.inr ⟨(hk.resolve_left (by omega)) k hkm, Int.le_refl _⟩)
  · rw [if_neg (by omega), if_neg (by omega), if_neg (by omega), if_neg (by omega), if_pos e, if_neg (by omega), if_neg (by omega), if_neg (by omega), if_neg (by omega), if_pos e, hf 0 (by have := htwo e; omega) (by omega) _ (Int.le_refl _), hf 1 (by have := htwo e; omega) (by omega) _ (Int.le_refl _)]
  · rw [if_neg (by omega), if_neg (by omega), if_neg (by omega), if_neg (by omega), if_neg (by omega), if_pos e, if_neg (by omega), if_neg (by omega), if_neg (by omega), if_neg (by omega), if_neg (by omega), if_pos e]
    have hn := h6 e
    exact rq_atP h (hr _ (fr_mem (hone (.inr (.inl e))))) (.inl (by omega))
  · have hl := hone (.inr (.inr e))
    rw [if_neg (by omega), if_neg (by omega), if_neg (by omega), if_neg (by omega), if_neg (by omega), if_neg (by omega), if_neg (by omega), if_neg (by omega), if_neg (by omega), if_neg (by omega), if_neg (by omega), if_neg (by omega), if_neg (by omega), if_neg (by omega),
      hf 0 hl (by omega) _ (Int.le_refl _), hf 0 hl (by omega) ((t : Int) - 1) (by omega), hf 0 hl (by omega) ((t : Int) - 2) (by omega), rq_atP h hi (u := (t : Int) - 1) (.inl (by omega)), rq_atP h hi (u := (t : Int) - 2) (.inl (by omega))]
  · rw [if_neg (by omega), if_neg (by omega), if_neg (by omega), if_neg (by omega), if_neg (by omega), if_neg (by omega), if_pos e, if_neg (by omega), if_neg (by omega), if_neg (by omega), if_neg (by omega), if_neg (by omega), if_neg (by omega), if_pos e]
/-- One more is made. -/
theorem rq_set (h : dn.length = P.length) {n : Nat} (hP : ∀ l ∈ P, l.length = n) (ht : t < n) {i : Nat} (hi : i < P.length) (hd : dn.getD i false = false) : rowsQ P t (dn.set i true) = (rowsQ P t dn).set i ((rowsQ P t dn).getD i [] ++ [(P.getD i []).getD t 0]) := by
  apply List.ext_getElem?
  intro j
  rcases Nat.lt_or_ge j P.length with hj | hj
  · have hl := List.getElem?_eq_getElem hj
    rw [rq_at (by rw [List.length_set]; exact h) hl]
    by_cases e : i = j
    · subst e
      rw [List.getElem?_set_self (by rw [rq_len h]; exact hi), rq_getD h hi, hd, List.getD_eq_getElem?_getD (l := dn.set i true), List.getElem?_set_self (by omega)]
      have hlen : t < (P[i]).length := by rw [hP _ (List.getElem_mem _)]; exact ht
      rw [List.getD_eq_getElem?_getD (l := P), hl]
      simp only [Option.getD_some, if_true, Bool.false_eq_true, if_false]
      rw [GPiece.take_next (List.getElem?_eq_getElem hlen), List.getD_eq_getElem?_getD, List.getElem?_eq_getElem hlen]
      rfl
    · rw [List.getElem?_set_ne e, rq_at h hl, List.getD_eq_getElem?_getD (l := dn.set i true), List.getElem?_set_ne e, ← List.getD_eq_getElem?_getD]
  · rw [List.getElem?_eq_none (by rw [rq_len (by rw [List.length_set]; exact h)]; exact hj), List.getElem?_eq_none (by rw [List.length_set, rq_len h]; exact hj)]
end
theorem rep_getD (N i : Nat) (b : Bool) : (List.replicate N b).getD i false = (decide (i < N) && b) := by
  rw [List.getD_eq_getElem?_getD, List.getElem?_replicate]
  split <;> simp [*]
theorem rq_next {P : List (List Nat)} {N t : Nat} (hP : P.length = N) : rowsQ P t (List.replicate N true) = rowsQ P (t + 1) (List.replicate N false) := by
  apply List.ext_getElem?
  intro j
  rcases Nat.lt_or_ge j P.length with hj | hj
  · have hl := List.getElem?_eq_getElem hj
    rw [rq_at (by rw [List.length_replicate, hP]) hl, rq_at (by rw [List.length_replicate, hP]) hl, rep_getD, rep_getD]
    simp [← hP, hj]
  · rw [List.getElem?_eq_none (by rw [rq_len (by rw [List.length_replicate, hP])]; exact hj), List.getElem?_eq_none (by rw [rq_len (by rw [List.length_replicate, hP])]; exact hj)]
theorem rq_zero {P : List (List Nat)} {N : Nat} (hP : P.length = N) : rowsQ P 0 (List.replicate N false) = List.replicate N [] := by
  apply List.ext_getElem?
  intro j
  rcases Nat.lt_or_ge j P.length with hj | hj
  · have hjN : j < N := by omega
    rw [rq_at (by rw [List.length_replicate, hP]) (List.getElem?_eq_getElem hj), rep_getD, List.getElem?_replicate]
    simp [hjN]
  · rw [List.getElem?_eq_none (by rw [rq_len (by rw [List.length_replicate, hP])]; exact hj), List.getElem?_eq_none (by rw [List.length_replicate]; omega)]
theorem rq_all {P : List (List Nat)} {N n : Nat} (hP : P.length = N) (hn : ∀ l ∈ P, l.length = n) : rowsQ P n (List.replicate N false) = P := by
  apply List.ext_getElem?
  intro j
  rcases Nat.lt_or_ge j P.length with hj | hj
  · rw [rq_at (by rw [List.length_replicate, hP]) (List.getElem?_eq_getElem hj), rep_getD, List.getElem?_eq_getElem hj]
    simp only [Bool.and_false, Bool.false_eq_true, if_false]
    rw [List.take_of_length_le (by rw [hn _ (List.getElem_mem _)]; exact Nat.le_refl _)]
  · rw [List.getElem?_eq_none (by rw [rq_len (by rw [List.length_replicate, hP])]; exact hj), List.getElem?_eq_none hj]

/-- Where the rounds stand: what is in the first r of L is done; in round r those ahead of i. -/
structure DI (L : List Nat) (N r i : Nat) (dn : List Bool) : Prop where
  len : dn.length = N
  old : ∀ j ∈ L.take r, dn.getD j false = true
  new : ∀ j, L[r]? = some j → j < i → dn.getD j false = true
theorem di_zero (L : List Nat) (N : Nat) : DI L N 0 0 (List.replicate N false) := ⟨List.length_replicate, fun j hj => by simp at hj, fun j _ hj => absurd hj (Nat.not_lt_zero _)⟩
theorem DI.set {L : List Nat} {N r i : Nat} {dn : List Bool} (h : DI L N r i dn) (hi : i < N) : DI L N r (i + 1) (dn.set i true) := by
  have hg : ∀ j, dn.getD j false = true ∨ j = i → (dn.set i true).getD j false = true := fun j hj => by
    by_cases e : i = j
    · subst e
      rw [List.getD_eq_getElem?_getD, List.getElem?_set_self (by rw [h.len]; exact hi)]
      rfl
    · rw [List.getD_eq_getElem?_getD, List.getElem?_set_ne e, ← List.getD_eq_getElem?_getD]
      exact hj.resolve_right (fun e2 => e e2.symm)
  refine ⟨by rw [List.length_set]; exact h.len, fun j hj => hg j (.inl (h.old j hj)), fun j hj hlt => ?_⟩
  by_cases e : j = i
  · exact hg j (.inr e)
  · exact hg j (.inl (h.new j hj (by omega)))
theorem DI.skip {L : List Nat} {N r i : Nat} {dn : List Bool} (h : DI L N r i dn) (hs : L[r]? = some i → dn.getD i false = true) : DI L N r (i + 1) dn :=
  ⟨h.len, h.old, fun j hj hlt => by
    by_cases e : j = i
    · rw [e] at hj ⊢
      exact hs hj
    · exact h.new j hj (by omega)⟩
theorem DI.round {L : List Nat} {N r : Nat} {dn : List Bool} (h : DI L N r N dn) (hL : ∀ j ∈ L, j < N) : DI L N (r + 1) 0 dn := by
  refine ⟨h.len, fun j hj => ?_, fun j _ hj => absurd hj (Nat.not_lt_zero _)⟩
  cases hr : L[r]? with
  | none =>
    have := List.getElem?_eq_none_iff.1 hr
    rw [List.take_of_length_le (by omega)] at hj
    exact h.old j (by rw [List.take_of_length_le (by omega)]; exact hj)
  | some k =>
    rw [GPiece.take_next hr, List.mem_append, List.mem_singleton] at hj
    rcases hj with hj | rfl
    · exact h.old j hj
    · exact h.new _ hr (hL _ (List.mem_of_getElem? hr))
theorem DI.done {g : Gd} {L : List Nat} {dn : List Bool} (hT : Topo g L) (h : DI L g.nodes.length g.nodes.length 0 dn) : dn = List.replicate g.nodes.length true := by
  apply List.ext_getElem?
  intro j
  rw [List.getElem?_replicate]
  rcases Nat.lt_or_ge j g.nodes.length with hj | hj
  · rw [if_pos hj]
    have := h.old j (by rw [List.take_of_length_le hT.len]; exact hT.all j hj)
    rw [List.getD_eq_getElem?_getD, List.getElem?_eq_getElem (by rw [h.len]; exact hj)] at this
    rw [List.getElem?_eq_getElem (by rw [h.len]; exact hj)]
    exact congrArg some this
  · rw [if_neg (by omega), List.getElem?_eq_none (by rw [h.len]; exact hj)]

/-- The one whose turn it is has all that it listens to. -/
theorem DI.ready {g : Gd} {L : List Nat} {r i : Nat} {dn : List Bool} {P : List (List Nat)} {n t : Nat} (hT : Topo g L) (h : DI L g.nodes.length r i dn) (hP : P.length = g.nodes.length) (hn : ∀ l ∈ P, l.length = n) (ht : t < n) {x : Nd} (hx : g.nodes[i]? = some x) (hr : ∀ k ∈ x.from_, k.toNat < g.nodes.length) (hi : L[r]? = some i) : readyB (rowsQ P t dn) x t = true := by
  unfold readyB
  by_cases h6 : x.kind = 6
  · rw [decide_eq_true h6]; rfl
  · rw [decide_eq_false h6, Bool.false_or, List.all_eq_true]
    intro k hk
    obtain ⟨h1, h2⟩ := List.getElem?_eq_some_iff.1 hi
    have hpre := hT.pre (L.take r) i (L.drop (r + 1)) (by rw [← h2, ← List.drop_eq_getElem_cons h1, List.take_append_drop]) x hx h6 k hk
    have := h.old _ hpre
    rw [rq_length (by rw [h.len, hP]) hn ht (by rw [hP]; exact hr k hk), if_pos this]
    exact decide_eq_true (by omega)
theorem ready_iff {dn : List Bool} {P : List (List Nat)} {n t : Nat} (h : dn.length = P.length) (hn : ∀ l ∈ P, l.length = n) (ht : t < n) {x : Nd} (hr : ∀ k ∈ x.from_, k.toNat < P.length) (hb : readyB (rowsQ P t dn) x t = true) : x.kind = 6 ∨ ∀ k ∈ x.from_, dn.getD k.toNat false = true := by
  unfold readyB at hb
  by_cases h6 : x.kind = 6
  · exact .inl h6
  · right
    rw [decide_eq_false h6, Bool.false_or, List.all_eq_true] at hb
    intro k hk
    have := of_decide_eq_true (hb k hk)
    rw [rq_length h hn ht (hr k hk)] at this
    by_cases e : dn.getD k.toNat false = true
    · exact e
    · rw [if_neg e] at this
      omega
end Go.Proofs.Ytdliilmnfbgplaa.GRFullP
