/- Texts of the graph seat, in one file: Bulk, GSol, GSplit, GSteps, GBlocksP, GStart. -/
import Derived.Test.YtdliilmnfbgplaaRows
import Derived.Test.YtdliilmnfbgplaaGM1
import Derived.Test.YtdliilmnfbgplaaGM6
/- What the bound of a statement of the second form gives. -/
namespace Go.Proofs.Ytdliilmnfbgplaa.Bulk
open Go Go.Proofs.Ytdliilmnfbgplaa.Opn

theorem pos {H : Type} (d : DataW H) : 1 ≤ Rows.uptoBulk d := by
  cases d with
  | lit l => cases l <;> simp [Rows.uptoBulk]
  | _ => simp [Rows.uptoBulk]

theorem count {H : Type} : ∀ l : List (DataW H), l.length ≤ Rows.uptoBulkAll l
  | [] => Nat.zero_le _
  | d :: r => by
    have h1 := pos d
    have h2 := count r
    simp only [Rows.uptoBulkAll, List.length_cons]
    omega

/-- A slice's elements, and their own bulk. -/
theorem els_le {H : Type} (d : DataW H) : Rows.uptoBulkAll (els d) ≤ Rows.uptoBulk d := by
  cases d with
  | slice e s => simp only [els, Rows.uptoBulk]; omega
  | _ => simp [els, Rows.uptoBulkAll]

theorem els_length {H : Type} (d : DataW H) : (els d).length ≤ Rows.uptoBulk d := Nat.le_trans (count _) (els_le d)

/-- All that lies two slices deep. -/
theorem els_sum {H : Type} : ∀ l : List (DataW H), (l.map fun d => (els d).length + 1).sum ≤ Rows.uptoBulkAll l + l.length
  | [] => Nat.zero_le _
  | d :: r => by
    have h1 := els_length d
    have h2 := els_sum r
    simp only [Rows.uptoBulkAll, List.map_cons, List.sum_cons, List.length_cons]
    omega

end Go.Proofs.Ytdliilmnfbgplaa.Bulk

/- What a piece makes, said by equations that know no order: plain. -/
namespace Go.Proofs.Ytdliilmnfbgplaa.GSol
open Go Go.Proofs.Ytdliilmnfbgplaa.Fl Go.Proofs.Ytdliilmnfbgplaa.GMod Go.Proofs.Ytdliilmnfbgplaa.GOrd Go.Proofs.Ytdliilmnfbgplaa.GNode4 Go.Proofs.Ytdliilmnfbgplaa.GPState Go.Proofs.Ytdliilmnfbgplaa.GOuts Go.Proofs.Ytdliilmnfbgplaa.GRestsP
set_option linter.unusedVariables false
set_option linter.unusedSimpArgs false

/-- What a node makes. -/
def rowN (s : NS) (hs : List (List Nat)) (n : Nat) : List Nat :=
  match s with
  | .del r a => tellN r a n
  | s => (GMod.runN s hs n).1
/-- .. and remembers then. -/
def keepN (s : NS) (hs : List (List Nat)) (n : Nat) : NS :=
  match s with
  | .del r a => .del r a
  | s => (GMod.runN s hs n).2
theorem rowN_run {s : NS} (h : isDel s = false) (hs : List (List Nat)) (n : Nat) : rowN s hs n = (GMod.runN s hs n).1 ∧ keepN s hs n = (GMod.runN s hs n).2 := by
  cases s <;> first | exact ⟨rfl, rfl⟩ | cases h
theorem rowN_del {s : NS} (h : isDel s = true) (hs : List (List Nat)) (n : Nat) : rowN s hs n = past0 n s ∧ keepN s hs n = s := by
  cases s <;> first | exact ⟨rfl, rfl⟩ | cases h

/-- The rows answer one another. -/
structure Sol (g : Gd) (sts : List NS) (ins : List (List Nat)) (n : Nat) (P : List (List Nat)) : Prop where
  len : P.length = g.nodes.length
  eq : ∀ (i : Nat) (x : Nd) (s : NS), g.nodes[i]? = some x → sts[i]? = some s → P[i]? = some (rowN s (heardN ins P x s) n)

/-- A node hears the same where the rows it asks for are the same. -/
theorem heard_same {ins P P' : List (List Nat)} {x : Nd} {s : NS} (h : ∀ k ∈ x.from_, P.getD k.toNat [] = P'.getD k.toNat []) : heardN ins P x s = heardN ins P' x s := by
  unfold heardN
  congr 1
  exact List.map_congr_left h

theorem sorted_ind {g : Gd} {order : List Nat} (h : Sorted g order) (p : Nat → Prop) (step : ∀ i, i < g.nodes.length → (∀ k, k < g.nodes.length → GOrd.Edge g i k → p k) → p i) : ∀ i, i < g.nodes.length → p i := by
  have hD : ∀ i, i < g.nodes.length → isD g i = true → p i := fun i hi hd => step i hi (fun k _ he => by
    unfold GOrd.Edge at he
    rw [isD_asks hd] at he
    cases he)
  have main : ∀ m i, i < g.nodes.length → isD g i = false → order.idxOf i ≤ m → p i := by
    intro m
    induction m with
    | zero =>
      intro i hi hd hm
      refine step i hi (fun k hk he => ?_)
      cases hdk : isD g k with
      | true => exact hD k hk hdk
      | false =>
        obtain ⟨l1, l2, e⟩ := List.append_of_mem ((h.mem i).2 ⟨hi, hd⟩)
        have := idx_lt h.nodup e (h.pre l1 i l2 e k he hdk)
        omega
    | succ m ih =>
      intro i hi hd hm
      refine step i hi (fun k hk he => ?_)
      cases hdk : isD g k with
      | true => exact hD k hk hdk
      | false =>
        obtain ⟨l1, l2, e⟩ := List.append_of_mem ((h.mem i).2 ⟨hi, hd⟩)
        have := idx_lt h.nodup e (h.pre l1 i l2 e k he hdk)
        exact ih k hk hdk (by omega)
  intro i hi
  cases hd : isD g i with
  | true => exact hD i hi hd
  | false => exact main _ i hi hd (Nat.le_refl _)

theorem isD_of {g : Gd} {i : Nat} {x : Nd} (hx : g.nodes[i]? = some x) : isD g i = decide (x.kind = 6) := by
  unfold isD
  rw [hx]
theorem fits_del {g : Gd} {x : Nd} {s : NS} (h : Fits g x s) : isDel s = decide (x.kind = 6) := by
  cases hd : isDel s with
  | true => exact (decide_eq_true (h.1 hd).1).symm
  | false => exact (decide_eq_false (h.2.1 hd)).symm
theorem edge_of {g : Gd} {i : Nat} {x : Nd} (hx : g.nodes[i]? = some x) (hk : x.kind ≠ 6) {k : Int} (h : k ∈ x.from_) : GOrd.Edge g i k.toNat := by
  unfold GOrd.Edge asks
  rw [hx]
  dsimp only
  rw [if_neg hk, List.mem_map]
  exact ⟨k, h, rfl⟩

/-- The rows are told by the equations. -/
theorem sol_unique {g : Gd} {order : List Nat} {sts : List NS} {ins : List (List Nat)} {n : Nat} {P P' : List (List Nat)} (ho : Sorted g order) (hg : GOk g order sts) (h : Sol g sts ins n P) (h' : Sol g sts ins n P') : P = P' := by
  have key : ∀ i, i < g.nodes.length → P[i]? = P'[i]? := by
    refine sorted_ind ho _ (fun i hi ih => ?_)
    obtain ⟨x, hx⟩ : ∃ x, g.nodes[i]? = some x := ⟨g.nodes[i], List.getElem?_eq_getElem _⟩
    obtain ⟨s, hs⟩ : ∃ s, sts[i]? = some s := ⟨sts[i]'(by rw [hg.len]; exact hi), List.getElem?_eq_getElem _⟩
    rw [h.eq i x s hx hs, h'.eq i x s hx hs]
    have hf := hg.fits i x s hx hs
    cases hd : isDel s with
    | true => rw [(rowN_del hd _ n).1, (rowN_del hd _ n).1]
    | false =>
      rw [heard_same (fun k hk => ?_)]
      have hr := (hg.refs i x hx).2 k hk
      have hkn : k.toNat < g.nodes.length := by omega
      have := ih k.toNat hkn (edge_of hx (hf.2.1 hd) hk)
      rw [List.getD_eq_getElem?_getD, List.getD_eq_getElem?_getD, this]
  apply List.ext_getElem?
  intro i
  rcases Nat.lt_or_ge i g.nodes.length with hi | hi
  · exact key i hi
  · rw [List.getElem?_eq_none (by rw [h.len]; exact hi), List.getElem?_eq_none (by rw [h'.len]; exact hi)]

/-- Where the play stands: what is in l1 is done. -/
structure PInv (g : Gd) (sts : List NS) (ins : List (List Nat)) (n : Nat) (l1 : List Nat) (past : List (List Nat)) (st : List NS) : Prop where
  pl : past.length = g.nodes.length
  sl : st.length = g.nodes.length
  done : ∀ i x s, i ∈ l1 → g.nodes[i]? = some x → sts[i]? = some s → past[i]? = some (GMod.runN s (heardN ins past x s) n).1 ∧ st[i]? = some (GMod.runN s (heardN ins past x s) n).2
  rest : ∀ i s, i ∉ l1 → sts[i]? = some s → past[i]? = some (past0 n s) ∧ st[i]? = some s

theorem play_inv {g : Gd} {order : List Nat} {sts : List NS} {ins : List (List Nat)} {n : Nat} (ho : Sorted g order) (hg : GOk g order sts) : ∀ (l2 l1 : List Nat) (past : List (List Nat)) (st : List NS), order = l1 ++ l2 → PInv g sts ins n l1 past st →
    PInv g sts ins n order (playN g ins n l2 (past, st)).1 (playN g ins n l2 (past, st)).2
  | [], l1, past, st, he, h => by
    rw [List.append_nil] at he
    rw [he]
    exact h
  | i :: l2, l1, past, st, he, h => by
    have hio : i ∈ order := by rw [he]; simp
    obtain ⟨hiN, hid⟩ := (ho.mem i).1 hio
    obtain ⟨x, hx⟩ : ∃ x, g.nodes[i]? = some x := ⟨g.nodes[i], List.getElem?_eq_getElem _⟩
    obtain ⟨s, hs⟩ : ∃ s, sts[i]? = some s := ⟨sts[i]'(by rw [hg.len]; exact hiN), List.getElem?_eq_getElem _⟩
    have hnd := ho.nodup
    rw [he, List.nodup_append] at hnd
    have hi1 : i ∉ l1 := fun hm => hnd.2.2 i hm i (List.mem_cons_self ..) rfl
    obtain ⟨hp, hst⟩ := h.rest i s hi1 hs
    have e : playN g ins n (i :: l2) (past, st) = playN g ins n l2 (past.set i (GMod.runN s (heardN ins past x s) n).1, st.set i (GMod.runN s (heardN ins past x s) n).2) := by simp [playN, hx, hst]
    rw [e]
    refine play_inv ho hg l2 (l1 ++ [i]) _ _ (by rw [he]; simp) ⟨by rw [List.length_set]; exact h.pl, by rw [List.length_set]; exact h.sl, fun j y t hj hy ht => ?_, fun j t hj ht => ?_⟩
    · -- none of them asks for i
      have hne : ∀ k ∈ y.from_, k.toNat ≠ i := fun k hk e2 => by
        rw [List.mem_append, List.mem_singleton] at hj
        have hjo : j ∈ order := by
          rcases hj with hj | rfl
          · rw [he]; exact List.mem_append_left _ hj
          · exact hio
        have hyk : y.kind ≠ 6 := by
          have := ((ho.mem j).1 hjo).2
          rw [isD_of hy] at this
          simpa using this
        have hed := edge_of hy hyk hk
        rw [e2] at hed
        rcases hj with hj | rfl
        · obtain ⟨a, b, e3⟩ := List.append_of_mem hj
          have := ho.pre a j (b ++ i :: l2) (by rw [he, e3]; simp) i hed hid
          exact hi1 (by rw [e3]; exact List.mem_append_left _ this)
        · exact hi1 (ho.pre l1 j l2 he j hed hid)
      have hh : heardN ins (past.set i (GMod.runN s (heardN ins past x s) n).1) y t = heardN ins past y t := heard_same (fun k hk => by
        rw [List.getD_eq_getElem?_getD, List.getD_eq_getElem?_getD, List.getElem?_set_ne (hne k hk).symm])
      rw [hh]
      by_cases hji : i = j
      · subst hji
        rw [hx] at hy
        rw [hs] at ht
        injection hy with hy
        injection ht with ht
        subst hy ht
        exact ⟨List.getElem?_set_self (by rw [h.pl]; exact hiN), List.getElem?_set_self (by rw [h.sl]; exact hiN)⟩
      · rw [List.getElem?_set_ne hji, List.getElem?_set_ne hji]
        refine h.done j y t ?_ hy ht
        rw [List.mem_append, List.mem_singleton] at hj
        rcases hj with hj | hj
        · exact hj
        · exact absurd hj.symm hji
    · have hji : i ≠ j := fun e2 => hj (by rw [← e2]; simp)
      rw [List.getElem?_set_ne hji, List.getElem?_set_ne hji]
      exact h.rest j t (fun hm => hj (List.mem_append_left _ hm)) ht

/-- What the nodes remember behind a piece. -/
def nextN (ins P : List (List Nat)) (n : Nat) (x : Nd) (s : NS) : NS := endN P x (keepN s (heardN ins P x s) n)

/-- A piece's rows answer one another; what is remembered goes with them. -/
theorem piece_sol {g : Gd} {order : List Nat} {sts : List NS} (ins : List (List Nat)) (n : Nat) (ho : Sorted g order) (hg : GOk g order sts) :
    Sol g sts ins n (pieceN g order sts ins n).1 ∧ (pieceN g order sts ins n).2 = List.zipWith (nextN ins (pieceN g order sts ins n).1 n) g.nodes sts := by
  have h0 : PInv g sts ins n [] (sts.map (past0 n)) sts := ⟨by rw [List.length_map, hg.len], hg.len, fun i x s hi => by simp at hi, fun i s _ hs => ⟨by rw [List.getElem?_map, hs]; rfl, hs⟩⟩
  have h := play_inv ho hg order [] _ _ rfl h0
  have hp : (pieceN g order sts ins n).1 = (playN g ins n order (sts.map (past0 n), sts)).1 := rfl
  refine ⟨⟨by rw [hp]; exact h.pl, fun i x s hx hs => ?_⟩, ?_⟩
  · rw [hp]
    have hf := fits_del (hg.fits i x s hx hs)
    cases hd : isDel s with
    | true =>
      rw [(rowN_del hd _ n).1]
      refine (h.rest i s (fun hm => ?_) hs).1
      have := ((ho.mem i).1 hm).2
      rw [isD_of hx, ← hf, hd] at this
      cases this
    | false =>
      rw [(rowN_run hd _ n).1]
      exact (h.done i x s ((ho.mem i).2 ⟨(List.getElem?_eq_some_iff.1 hx).1, by rw [isD_of hx, ← hf, hd]⟩) hx hs).1
  · rw [hp]
    show List.zipWith (endN (playN g ins n order (sts.map (past0 n), sts)).1) g.nodes (playN g ins n order (sts.map (past0 n), sts)).2 = _
    apply List.ext_getElem?
    intro i
    rw [List.getElem?_zipWith, List.getElem?_zipWith]
    cases hx : g.nodes[i]? with
    | none => rfl
    | some x =>
      obtain ⟨s, hs⟩ : ∃ s, sts[i]? = some s := ⟨sts[i]'(by rw [hg.len]; exact (List.getElem?_eq_some_iff.1 hx).1), List.getElem?_eq_getElem _⟩
      have hf := fits_del (hg.fits i x s hx hs)
      rw [hs]
      dsimp only
      cases hd : isDel s with
      | true =>
        have hnm : i ∉ order := fun hm => by
          have := ((ho.mem i).1 hm).2
          rw [isD_of hx, ← hf, hd] at this
          cases this
        rw [(h.rest i s hnm hs).2]
        dsimp only
        unfold nextN
        rw [(rowN_del hd _ n).2]
      | false =>
        rw [(h.done i x s ((ho.mem i).2 ⟨(List.getElem?_eq_some_iff.1 hx).1, by rw [isD_of hx, ← hf, hd]⟩) hx hs).2]
        dsimp only
        unfold nextN
        rw [(rowN_run hd _ n).2]

/-- All rows are of n samples. -/
theorem sol_len {g : Gd} {order : List Nat} {sts : List NS} {ins : List (List Nat)} {n : Nat} {P : List (List Nat)} (ho : Sorted g order) (hg : GOk g order sts) (h : Sol g sts ins n P) (hi : ∀ l ∈ ins, l.length = n) (hil : (ins.length : Int) = g.ins) : ∀ l ∈ P, l.length = n := by
  have key : ∀ i, i < g.nodes.length → (P.getD i []).length = n := by
    refine sorted_ind ho _ (fun i hiN ih => ?_)
    obtain ⟨x, hx⟩ : ∃ x, g.nodes[i]? = some x := ⟨g.nodes[i], List.getElem?_eq_getElem _⟩
    obtain ⟨s, hs⟩ : ∃ s, sts[i]? = some s := ⟨sts[i]'(by rw [hg.len]; exact hiN), List.getElem?_eq_getElem _⟩
    rw [List.getD_eq_getElem?_getD, h.eq i x s hx hs]
    have hf := hg.fits i x s hx hs
    cases hd : isDel s with
    | true =>
      rw [(rowN_del hd _ n).1]
      show (past0 n s).length = n
      cases s with
      | del r a => simp [past0, tellN]
      | _ => cases hd
    | false =>
      rw [(rowN_run hd _ n).1]
      have hk := hf.2.1 hd
      have hfr : ∀ k ∈ x.from_, (P.getD k.toNat []).length = n := fun k hkm => by
        have hr := (hg.refs i x hx).2 k hkm
        exact ih k.toNat (by omega) (edge_of hx hk hkm)
      have hhl : ∀ l ∈ x.from_.map (fun k => P.getD k.toNat []), l.length = n := fun l hl => by
        rw [List.mem_map] at hl
        obtain ⟨k, hkm, rfl⟩ := hl
        exact hfr k hkm
      have hget : ∀ (hs : List (List Nat)) (j : Nat), (∀ l ∈ hs, l.length = n) → j < hs.length → (hs.getD j []).length = n := fun hs j h1 h2 => by
        rw [List.getD_eq_getElem?_getD, List.getElem?_eq_getElem h2]
        exact h1 _ (List.getElem_mem _)
      show ((GMod.runN s (heardN ins P x s) n).1).length = n
      cases s with
      | ent k =>
        have hkl := (hf.2.2.1 k rfl).1
        have : k < ins.length := by omega
        exact hget ins k hi this
      | con y => exact List.length_replicate
      | gai y =>
        have ha : 1 ≤ x.from_.length := hf.2.2.2 (fun k e => by cases e)
        simp only [GMod.runN, List.length_map, heardN, List.nil_append]
        exact hget _ 0 hhl (by rw [List.length_map]; omega)
      | mix =>
        simp only [GMod.runN, heardN, List.nil_append]
        unfold mixN
        cases hm : x.from_.map (fun k => P.getD k.toNat []) with
        | nil => exact List.length_replicate
        | cons a l =>
          dsimp only
          rw [hm] at hhl
          have : ∀ (l : List (List Nat)) (a : List Nat), a.length = n → (∀ b ∈ l, b.length = n) → (l.foldl (List.zipWith fadd) a).length = n := by
            intro l
            induction l with
            | nil => intro a ha _; exact ha
            | cons b l ihl =>
              intro a ha hb
              refine ihl _ ?_ (fun c hc => hb c (List.mem_cons_of_mem _ hc))
              rw [List.length_zipWith, ha, hb b (List.mem_cons_self ..), Nat.min_self]
          exact this l a (hhl a (List.mem_cons_self ..)) (fun b hb => hhl b (List.mem_cons_of_mem _ hb))
      | tim =>
        have ha : 2 ≤ x.from_.length := hf.2.2.2 (fun k e => by cases e)
        simp only [GMod.runN, List.length_zipWith, heardN, List.nil_append]
        rw [hget _ 0 hhl (by rw [List.length_map]; omega), hget _ 1 hhl (by rw [List.length_map]; omega), Nat.min_self]
      | del r a => cases hd
      | fil c t =>
        have ha : 1 ≤ x.from_.length := hf.2.2.2 (fun k e => by cases e)
        simp only [GMod.runN, heardN, List.nil_append]
        rw [outs_len]
        exact hget _ 0 hhl (by rw [List.length_map]; omega)
      | sin p t =>
        simp only [GMod.runN, List.length_map]
        exact GVMod.play_len p n t
  intro l hl
  obtain ⟨i, hi2⟩ := List.mem_iff_getElem?.1 hl
  have hiN : i < g.nodes.length := by rw [← h.len]; exact (List.getElem?_eq_some_iff.1 hi2).1
  have := key i hiN
  rw [List.getD_eq_getElem?_getD, hi2] at this
  exact this
end Go.Proofs.Ytdliilmnfbgplaa.GSol

/- A piece is as its parts, one behind the other: plain. -/
namespace Go.Proofs.Ytdliilmnfbgplaa.GSplit
open Go Go.Proofs.Ytdliilmnfbgplaa.Fl Go.Proofs.Ytdliilmnfbgplaa.GMod Go.Proofs.Ytdliilmnfbgplaa.GOrd Go.Proofs.Ytdliilmnfbgplaa.GNode4 Go.Proofs.Ytdliilmnfbgplaa.GPState Go.Proofs.Ytdliilmnfbgplaa.GOuts Go.Proofs.Ytdliilmnfbgplaa.GRestsP Go.Proofs.Ytdliilmnfbgplaa.GSol
set_option linter.unusedVariables false
set_option linter.unusedSimpArgs false

/-! ### hearing and telling -/
theorem hear_append : ∀ (l1 l2 r : List Nat) (a : Nat), hearN r a (l1 ++ l2) = hearN (hearN r a l1).1 (hearN r a l1).2 l2
  | [], l2, r, a => rfl
  | x :: l1, l2, r, a => by
    simp only [List.cons_append, hearN]
    exact hear_append l1 l2 _ _
theorem hear_at : ∀ (l r : List Nat) (a : Nat), a < r.length → (hearN r a l).2 = (a + l.length) % r.length
  | [], r, a, h => by simp only [hearN, List.length_nil, Nat.add_zero]; rw [Nat.mod_eq_of_lt h]
  | x :: l, r, a, h => by
    have hr : 0 < r.length := by omega
    unfold hearN
    rw [hear_at l _ _ (by rw [List.length_set]; exact Nat.mod_lt _ hr), List.length_set, List.length_cons]
    rw [Nat.mod_add_mod]
    congr 1
    omega
/-- What is heard leaves the other places as they were. -/
theorem hear_far : ∀ (l r : List Nat) (a t : Nat), a < r.length → l.length ≤ t → t < r.length → (hearN r a l).1.getD ((a + t) % r.length) 0 = r.getD ((a + t) % r.length) 0
  | [], r, a, t, h, _, _ => rfl
  | x :: l, r, a, t, h, hl, ht => by
    have hr : 0 < r.length := by omega
    rw [List.length_cons] at hl
    unfold hearN
    have ih := hear_far l (r.set a x) ((a + 1) % r.length) (t - 1) (by rw [List.length_set]; exact Nat.mod_lt _ hr) (by omega) (by rw [List.length_set]; omega)
    rw [List.length_set] at ih
    have e : ((a + 1) % r.length + (t - 1)) % r.length = (a + t) % r.length := by
      rw [Nat.mod_add_mod]
      congr 1
      omega
    rw [e] at ih
    rw [ih, List.getD_eq_getElem?_getD, List.getD_eq_getElem?_getD, List.getElem?_set_ne]
    intro e2
    have h1 := Nat.div_add_mod (a + t) r.length
    rw [← e2] at h1
    have h2 : r.length * ((a + t) / r.length) = t := by omega
    have h3 : (a + t) / r.length ≠ 0 := by
      intro e3
      rw [e3] at h2
      omega
    have h4 : r.length ≤ r.length * ((a + t) / r.length) := Nat.le_mul_of_pos_right _ (Nat.pos_of_ne_zero h3)
    omega
theorem tell_take (r : List Nat) (a n m : Nat) : (tellN r a (n + m)).take n = tellN r a n := by
  unfold tellN
  rw [← List.map_take, List.take_range, Nat.min_eq_left (by omega)]
theorem tell_drop {r : List Nat} {a n m : Nat} {l : List Nat} (ha : a < r.length) (hl : l.length = n) (hr : n + m ≤ r.length) : (tellN r a (n + m)).drop n = tellN (hearN r a l).1 (hearN r a l).2 m := by
  apply List.ext_getElem?
  intro i
  unfold tellN
  rw [List.getElem?_drop, List.getElem?_map, List.getElem?_map, hear_len, hear_at l r a ha, hl]
  rcases Nat.lt_or_ge i m with hi | hi
  · rw [List.getElem?_range (by omega), List.getElem?_range hi]
    simp only [Option.map_some]
    congr 1
    have e : ((a + n) % r.length + i) % r.length = (a + (n + i)) % r.length := by
      rw [Nat.mod_add_mod]
      congr 1
      omega
    rw [e, hear_far l r a (n + i) ha (by omega) (by omega)]
  · rw [List.getElem?_eq_none (by rw [List.length_range]; omega), List.getElem?_eq_none (by rw [List.length_range]; exact hi)]
    rfl

/-! ### one node -/
theorem zip_take {f : Nat → Nat → Nat} : ∀ (a b : List Nat) (n : Nat), (List.zipWith f a b).take n = List.zipWith f (a.take n) (b.take n)
  | [], b, n => by simp
  | _ :: _, [], n => by simp
  | x :: a, y :: b, 0 => by simp
  | x :: a, y :: b, n + 1 => by simp [zip_take a b n]
theorem zip_drop {f : Nat → Nat → Nat} : ∀ (a b : List Nat) (n : Nat), (List.zipWith f a b).drop n = List.zipWith f (a.drop n) (b.drop n)
  | [], b, n => by simp
  | _ :: _, [], n => by simp
  | x :: a, y :: b, 0 => by simp
  | x :: a, y :: b, n + 1 => by simp [zip_drop a b n]
theorem fold_take {f : Nat → Nat → Nat} (n : Nat) : ∀ (l : List (List Nat)) (a : List Nat), (l.foldl (List.zipWith f) a).take n = (l.map (List.take n)).foldl (List.zipWith f) (a.take n)
  | [], a => rfl
  | b :: l, a => by
    simp only [List.foldl_cons, List.map_cons]
    rw [fold_take n l, zip_take]
theorem fold_drop {f : Nat → Nat → Nat} (n : Nat) : ∀ (l : List (List Nat)) (a : List Nat), (l.foldl (List.zipWith f) a).drop n = (l.map (List.drop n)).foldl (List.zipWith f) (a.drop n)
  | [], a => rfl
  | b :: l, a => by
    simp only [List.foldl_cons, List.map_cons]
    rw [fold_drop n l, zip_drop]
theorem getD_map {f : List Nat → List Nat} (hf : f [] = []) (l : List (List Nat)) (i : Nat) : (l.map f).getD i [] = f (l.getD i []) := by
  rw [List.getD_eq_getElem?_getD, List.getD_eq_getElem?_getD, List.getElem?_map]
  cases l[i]? with
  | none => exact hf.symm
  | some x => rfl
theorem play_add (p : Pt) (a b : Nat) (s : GVMod.St) : (GVMod.play p (a + b) s).1 = (GVMod.play p a s).1 ++ (GVMod.play p b (GVMod.after p a s)).1 := by
  induction a generalizing s with
  | zero => rw [Nat.zero_add]; rfl
  | succ a ih =>
    rw [show a + 1 + b = (a + b) + 1 from by omega]
    simp only [GVMod.play, GVMod.after, List.cons_append]
    rw [ih]
theorem after_add (p : Pt) (a b : Nat) (s : GVMod.St) : GVMod.after p (a + b) s = GVMod.after p b (GVMod.after p a s) := by
  induction a generalizing s with
  | zero => rw [Nat.zero_add]; rfl
  | succ a ih =>
    rw [show a + 1 + b = (a + b) + 1 from by omega]
    exact ih _

/-- What a node that does not tell ahead makes of a piece is what it makes of its parts. -/
theorem run_split (s : NS) (hs : List (List Nat)) (n m : Nat) (hl : ∀ l ∈ hs, l.length = n + m) (h0 : ∀ k, s = .ent k → hs ≠ []) (h1 : ∀ c t, s = .fil c t → hs ≠ []) :
    (GMod.runN s hs (n + m)).1.take n = (GMod.runN s (hs.map (List.take n)) n).1 ∧ (GMod.runN s hs (n + m)).1.drop n = (GMod.runN (GMod.runN s (hs.map (List.take n)) n).2 (hs.map (List.drop n)) m).1 ∧
      (GMod.runN s hs (n + m)).2 = (GMod.runN (GMod.runN s (hs.map (List.take n)) n).2 (hs.map (List.drop n)) m).2 := by
  have ht : ([] : List Nat).take n = [] := by simp
  have hd : ([] : List Nat).drop n = [] := by simp
  cases s with
  | ent k =>
    simp only [GMod.runN]
    rw [getD_map ht, getD_map hd]
    exact ⟨rfl, rfl, trivial⟩
  | con x =>
    simp only [GMod.runN]
    rw [List.take_replicate, List.drop_replicate, Nat.min_eq_left (by omega), show n + m - n = m from by omega]
    exact ⟨rfl, rfl, trivial⟩
  | gai x =>
    simp only [GMod.runN]
    rw [getD_map ht, getD_map hd, List.map_take, List.map_drop]
    exact ⟨rfl, rfl, trivial⟩
  | mix =>
    simp only [GMod.runN]
    unfold mixN
    cases hs with
    | nil =>
      simp only [List.map_nil]
      rw [List.take_replicate, List.drop_replicate, Nat.min_eq_left (by omega), show n + m - n = m from by omega]
      exact ⟨rfl, rfl, trivial⟩
    | cons a l =>
      simp only [List.map_cons]
      exact ⟨fold_take n l a, fold_drop n l a, trivial⟩
  | tim =>
    simp only [GMod.runN]
    rw [getD_map ht, getD_map hd, getD_map ht, getD_map hd, zip_take, zip_drop]
    exact ⟨rfl, rfl, trivial⟩
  | del r a =>
    simp only [GMod.runN]
    rw [List.take_replicate, List.drop_replicate, Nat.min_eq_left (by omega), show n + m - n = m from by omega]
    exact ⟨rfl, rfl, trivial⟩
  | fil c t =>
    simp only [GMod.runN]
    rw [getD_map ht, getD_map hd]
    obtain ⟨x, l, rfl⟩ : ∃ x l, hs = x :: l := by
      cases hs with
      | nil => exact absurd rfl (h1 c t rfl)
      | cons x l => exact ⟨x, l, rfl⟩
    have hx := hl x (List.mem_cons_self ..)
    have e : (x :: l).getD 0 [] = x.take n ++ x.drop n := by rw [List.take_append_drop]; rfl
    have e2 : (x :: l).getD 0 [] = x := rfl
    rw [e2]
    have h3 := GFRun.outs_append c t (x.take n) (x.drop n)
    have h4 := GFRun.fin_append c t (x.take n) (x.drop n)
    rw [List.take_append_drop] at h3 h4
    have h5 : (GFRun.outs c t (x.take n)).length = n := by rw [GFRun.outs_length, List.length_take]; omega
    rw [h3, h4, List.take_left' h5, List.drop_left' h5]
    exact ⟨rfl, rfl, rfl⟩
  | sin p t =>
    simp only [GMod.runN]
    have h5 : ((GVMod.play p n t).1.map cn).length = n := by rw [List.length_map]; exact GVMod.play_len p n t
    rw [play_add, after_add, List.map_append, List.take_left' h5, List.drop_left' h5]
    exact ⟨rfl, rfl, rfl⟩

/-! ### all nodes -/
theorem heard_map {f : List Nat → List Nat} (hf : f [] = []) (ins P : List (List Nat)) (x : Nd) (s : NS) : heardN (ins.map f) (P.map f) x s = (heardN ins P x s).map f := by
  unfold heardN
  rw [List.map_append, List.map_map]
  congr 1
  · cases s <;> first | rfl | (simp only [List.map_cons, List.map_nil]; rw [getD_map hf])
  · apply List.map_congr_left
    intro k _
    exact getD_map hf P k.toNat
theorem heard_next (ins P ins' P' : List (List Nat)) (n : Nat) (x : Nd) (s : NS) : heardN ins P x (nextN ins' P' n x s) = heardN ins P x s := by
  cases s <;> rfl
/-- Every delay is at least so long. -/
def RingOk (sts : List NS) (c : Nat) : Prop := ∀ s ∈ sts, ∀ r a, s = .del r a → a < r.length ∧ c ≤ r.length
theorem RingOk.mono {sts : List NS} {c c' : Nat} (h : RingOk sts c) (hc : c' ≤ c) : RingOk sts c' := fun s hs r a e => ⟨(h s hs r a e).1, Nat.le_trans hc (h s hs r a e).2⟩
theorem ring_next {g : Gd} {sts : List NS} {c : Nat} (h : RingOk sts c) (ins P : List (List Nat)) (n : Nat) : RingOk (List.zipWith (nextN ins P n) g.nodes sts) c := by
  intro s hs r a e
  obtain ⟨i, hi⟩ := List.mem_iff_getElem?.1 hs
  rw [List.getElem?_zipWith] at hi
  cases hx : g.nodes[i]? with
  | none => rw [hx] at hi; cases hi
  | some x =>
    cases ht : sts[i]? with
    | none => rw [hx, ht] at hi; cases hi
    | some t =>
      rw [hx, ht] at hi
      simp only [Option.some.injEq] at hi
      subst hi
      cases t with
      | del r0 a0 =>
        obtain ⟨h1, h2⟩ := h _ (List.mem_of_getElem? ht) r0 a0 rfl
        have e2 : nextN ins P n x (.del r0 a0) = .del (hearN r0 a0 (P.getD ((x.from_.getD 0 0).toNat) [])).1 (hearN r0 a0 (P.getD ((x.from_.getD 0 0).toNat) [])).2 := rfl
        rw [e2] at e
        injection e with e3 e4
        subst e3 e4
        rw [hear_len, hear_at _ r0 a0 h1]
        exact ⟨Nat.mod_lt _ (by omega), h2⟩
      | _ => cases e

theorem heard_len {g : Gd} {order : List Nat} {sts : List NS} {ins P : List (List Nat)} {n i : Nat} {x : Nd} {s : NS} (hg : GOk g order sts) (hx : g.nodes[i]? = some x) (hs : sts[i]? = some s) (hp : ∀ l ∈ P, l.length = n) (hpl : P.length = g.nodes.length) (hi : ∀ l ∈ ins, l.length = n) (hil : (ins.length : Int) = g.ins) : ∀ l ∈ heardN ins P x s, l.length = n := by
  intro l hl
  have hget : ∀ (hs : List (List Nat)) (j : Nat), (∀ l ∈ hs, l.length = n) → j < hs.length → (hs.getD j []).length = n := fun hs j h1 h2 => by
    rw [List.getD_eq_getElem?_getD, List.getElem?_eq_getElem h2]
    exact h1 _ (List.getElem_mem _)
  unfold heardN at hl
  rw [List.mem_append] at hl
  rcases hl with hl | hl
  · cases s with
    | ent k =>
      have hk := ((hg.fits i x _ hx hs).2.2.1 k rfl).1
      simp only [List.mem_singleton] at hl
      rw [hl]
      exact hget ins k hi (by omega)
    | _ => simp at hl
  · rw [List.mem_map] at hl
    obtain ⟨k, hk, rfl⟩ := hl
    have hr := (hg.refs i x hx).2 k hk
    exact hget P _ hp (by omega)

/-- What is made of a piece is what is made of its parts, one behind the other. -/
theorem sol_split {g : Gd} {order : List Nat} {sts : List NS} {ins : List (List Nat)} {n m : Nat} {P : List (List Nat)} (ho : Sorted g order) (hg : GOk g order sts) (h : Sol g sts ins (n + m) P) (hi : ∀ l ∈ ins, l.length = n + m) (hil : (ins.length : Int) = g.ins) (hr : RingOk sts (n + m)) :
    Sol g sts (ins.map (List.take n)) n (P.map (List.take n)) ∧
    Sol g (List.zipWith (nextN (ins.map (List.take n)) (P.map (List.take n)) n) g.nodes sts) (ins.map (List.drop n)) m (P.map (List.drop n)) ∧
    List.zipWith (nextN (ins.map (List.drop n)) (P.map (List.drop n)) m) g.nodes (List.zipWith (nextN (ins.map (List.take n)) (P.map (List.take n)) n) g.nodes sts) = List.zipWith (nextN ins P (n + m)) g.nodes sts := by
  have hpl := sol_len ho hg h hi hil
  have ht : ([] : List Nat).take n = [] := by simp
  have hd : ([] : List Nat).drop n = [] := by simp
  have node : ∀ (i : Nat) (x : Nd) (s : NS), g.nodes[i]? = some x → sts[i]? = some s →
      (rowN s (heardN ins P x s) (n + m)).take n = rowN s ((heardN ins P x s).map (List.take n)) n ∧
      (rowN s (heardN ins P x s) (n + m)).drop n = rowN (nextN (ins.map (List.take n)) (P.map (List.take n)) n x s) ((heardN ins P x s).map (List.drop n)) m ∧
      nextN (ins.map (List.drop n)) (P.map (List.drop n)) m x (nextN (ins.map (List.take n)) (P.map (List.take n)) n x s) = nextN ins P (n + m) x s := by
    intro i x s hx hs
    have hf := hg.fits i x s hx hs
    have hhl := heard_len hg hx hs hpl h.len hi hil
    cases hdl : isDel s with
    | true =>
      cases s with
      | del r a =>
        obtain ⟨ha, hrl⟩ := hr _ (List.mem_of_getElem? hs) r a rfl
        obtain ⟨k, hk⟩ := (hf.1 rfl).2
        have hkr := (hg.refs i x hx).2 (k : Int) (by rw [hk]; simp)
        have hkn : k < g.nodes.length := by omega
        obtain ⟨l, hl⟩ : ∃ l, P.getD k [] = l := ⟨_, rfl⟩
        have hll : l.length = n + m := by
          rw [← hl, List.getD_eq_getElem?_getD, List.getElem?_eq_getElem (by rw [h.len]; exact hkn)]
          exact hpl _ (List.getElem_mem _)
        have e0 : ((x.from_.getD 0 0).toNat) = k := by rw [hk]; simp
        have n1 : ∀ (I Q : List (List Nat)) (c : Nat) (r : List Nat) (a : Nat), nextN I Q c x (.del r a) = .del (hearN r a (Q.getD k [])).1 (hearN r a (Q.getD k [])).2 := fun I Q c r a => by
          show NS.del (hearN r a (Q.getD ((x.from_.getD 0 0).toNat) [])).1 (hearN r a (Q.getD ((x.from_.getD 0 0).toNat) [])).2 = _
          rw [e0]
        rw [n1, n1, n1, getD_map ht, getD_map hd, hl]
        refine ⟨tell_take r a n m, tell_drop ha (by rw [List.length_take]; omega) hrl, ?_⟩
        have h3 := hear_append (l.take n) (l.drop n) r a
        rw [List.take_append_drop] at h3
        rw [h3]
      | _ => cases hdl
    | false =>
      have hrun := run_split s (heardN ins P x s) n m hhl (fun k e => by subst e; simp [heardN]) (fun c t e => by
        subst e
        have ha : 1 ≤ x.from_.length := hf.2.2.2 (fun k e => by cases e)
        intro e2
        have h4 := congrArg List.length e2
        simp [heardN] at h4
        rw [h4] at ha
        simp at ha)
      have nx : ∀ (I Q : List (List Nat)) (c : Nat) (t : NS), isDel t = false → nextN I Q c x t = (GMod.runN t (heardN I Q x t) c).2 := fun I Q c t h => by
        unfold nextN
        rw [(rowN_run h _ _).2]
        cases t <;> first | rfl | cases h
      have hd1 : isDel (nextN (ins.map (List.take n)) (P.map (List.take n)) n x s) = false := by
        rw [nx _ _ _ s hdl]
        cases s <;> first | rfl | cases hdl
      have hh : heardN (ins.map (List.drop n)) (P.map (List.drop n)) x (nextN (ins.map (List.take n)) (P.map (List.take n)) n x s) = (heardN ins P x s).map (List.drop n) := by
        rw [heard_next, heard_map hd]
      refine ⟨?_, ?_, ?_⟩
      · rw [(rowN_run hdl _ _).1, (rowN_run hdl _ _).1]
        exact hrun.1
      · rw [(rowN_run hdl _ _).1, (rowN_run hd1 _ _).1, nx _ _ _ s hdl, heard_map ht]
        exact hrun.2.1
      · rw [nx _ _ _ _ hd1, hh, nx _ _ _ s hdl, nx _ _ _ s hdl, heard_map ht]
        exact hrun.2.2.symm
  refine ⟨⟨by rw [List.length_map]; exact h.len, fun i x s hx hs => ?_⟩, ⟨by rw [List.length_map]; exact h.len, fun i x s' hx hs' => ?_⟩, ?_⟩
  · rw [List.getElem?_map, h.eq i x s hx hs, heard_map ht]
    simp only [Option.map_some]
    rw [(node i x s hx hs).1]
  · obtain ⟨s, hs⟩ : ∃ s, sts[i]? = some s := ⟨sts[i]'(by rw [hg.len]; exact (List.getElem?_eq_some_iff.1 hx).1), List.getElem?_eq_getElem _⟩
    rw [List.getElem?_zipWith, hx, hs] at hs'
    simp only [Option.some.injEq] at hs'
    subst hs'
    rw [List.getElem?_map, h.eq i x s hx hs, heard_next, heard_map hd]
    simp only [Option.map_some]
    rw [(node i x s hx hs).2.1]
  · apply List.ext_getElem?
    intro i
    rw [List.getElem?_zipWith, List.getElem?_zipWith, List.getElem?_zipWith]
    cases hx : g.nodes[i]? with
    | none => rfl
    | some x =>
      obtain ⟨s, hs⟩ : ∃ s, sts[i]? = some s := ⟨sts[i]'(by rw [hg.len]; exact (List.getElem?_eq_some_iff.1 hx).1), List.getElem?_eq_getElem _⟩
      rw [hs]
      simp only [Option.some.injEq]
      exact (node i x s hx hs).2.2

theorem piece_split {g : Gd} {order : List Nat} {sts : List NS} {ins : List (List Nat)} {n m : Nat} (ho : Sorted g order) (hg : GOk g order sts) (hi : ∀ l ∈ ins, l.length = n + m) (hil : (ins.length : Int) = g.ins) (hr : RingOk sts (n + m)) :
    (pieceN g order sts ins (n + m)).1.map (List.take n) = (pieceN g order sts (ins.map (List.take n)) n).1 ∧
    (pieceN g order sts ins (n + m)).1.map (List.drop n) = (pieceN g order (pieceN g order sts (ins.map (List.take n)) n).2 (ins.map (List.drop n)) m).1 ∧
    (pieceN g order (pieceN g order sts (ins.map (List.take n)) n).2 (ins.map (List.drop n)) m).2 = (pieceN g order sts ins (n + m)).2 := by
  obtain ⟨h1, h2⟩ := piece_sol ins (n + m) ho hg
  obtain ⟨a1, a2, a3⟩ := sol_split ho hg h1 hi hil hr
  obtain ⟨b1, b2⟩ := piece_sol (ins.map (List.take n)) n ho hg
  have e1 := sol_unique ho hg a1 b1
  have hg1 := gok_piece hg (ins.map (List.take n)) n
  obtain ⟨c1, c2⟩ := piece_sol (ins.map (List.drop n)) m ho hg1
  rw [e1, ← b2] at a2 a3
  have e2 := sol_unique ho hg1 a2 c1
  refine ⟨e1, e2, ?_⟩
  rw [c2, ← e2, h2, a3]
theorem ring_piece {g : Gd} {order : List Nat} {sts : List NS} {c : Nat} (ho : Sorted g order) (hg : GOk g order sts) (h : RingOk sts c) (ins : List (List Nat)) (n : Nat) : RingOk (pieceN g order sts ins n).2 c := by
  rw [(piece_sol ins n ho hg).2]
  exact ring_next h _ _ _
end Go.Proofs.Ytdliilmnfbgplaa.GSplit

/- A run is sample by sample; pieces, one behind the other, are what is made at once: plain. -/
namespace Go.Proofs.Ytdliilmnfbgplaa.GSteps
open Go Go.Proofs.Ytdliilmnfbgplaa.Fl Go.Proofs.Ytdliilmnfbgplaa.GMod Go.Proofs.Ytdliilmnfbgplaa.GOrd Go.Proofs.Ytdliilmnfbgplaa.GNode4 Go.Proofs.Ytdliilmnfbgplaa.GPState Go.Proofs.Ytdliilmnfbgplaa.GOuts Go.Proofs.Ytdliilmnfbgplaa.GRestsP Go.Proofs.Ytdliilmnfbgplaa.GSol Go.Proofs.Ytdliilmnfbgplaa.GSplit
set_option linter.unusedVariables false
set_option linter.unusedSimpArgs false

/-- Sample by sample: what the nodes made, what they remember. -/
def runS (g : Gd) (order : List Nat) : Nat → List NS → List (List Nat) → List (List Nat) × List NS
  | 0, sts, _ => (List.replicate g.nodes.length [], sts)
  | n + 1, sts, ins =>
    let p := pieceN g order sts (ins.map (List.take 1)) 1
    let q := runS g order n p.2 (ins.map (List.drop 1))
    (List.zipWith (· ++ ·) p.1 q.1, q.2)

theorem zip_app_nil : ∀ (a : List (List Nat)), List.zipWith (· ++ ·) a (List.replicate a.length []) = a
  | [] => rfl
  | x :: a => by simp [List.replicate_succ, zip_app_nil a]
theorem zip_nil_app : ∀ (a : List (List Nat)), List.zipWith (· ++ ·) (List.replicate a.length []) a = a
  | [] => rfl
  | x :: a => by simp [List.replicate_succ, zip_nil_app a]
theorem zip_assoc : ∀ (a b c : List (List Nat)), List.zipWith (· ++ ·) (List.zipWith (· ++ ·) a b) c = List.zipWith (· ++ ·) a (List.zipWith (· ++ ·) b c)
  | [], b, c => by simp
  | _ :: _, [], c => by simp
  | _ :: _, _ :: _, [] => by simp
  | x :: a, y :: b, z :: c => by simp [zip_assoc a b c]
theorem zip_take_drop (n : Nat) : ∀ (a : List (List Nat)), List.zipWith (· ++ ·) (a.map (List.take n)) (a.map (List.drop n)) = a
  | [] => rfl
  | x :: a => by simp [zip_take_drop n a]

/-- What holds along a run. -/
structure Ok (g : Gd) (order : List Nat) (c : Nat) (sts : List NS) : Prop where
  ord : Sorted g order
  ok : GOk g order sts
  ring : RingOk sts c
theorem Ok.next {g : Gd} {order : List Nat} {c : Nat} {sts : List NS} (h : Ok g order c sts) (ins : List (List Nat)) (n : Nat) : Ok g order c (pieceN g order sts ins n).2 :=
  ⟨h.ord, gok_piece h.ok ins n, ring_piece h.ord h.ok h.ring ins n⟩
theorem Ok.plen {g : Gd} {order : List Nat} {c : Nat} {sts : List NS} (h : Ok g order c sts) (ins : List (List Nat)) (n : Nat) : (pieceN g order sts ins n).1.length = g.nodes.length := (piece_sol ins n h.ord h.ok).1.len
theorem Ok.rlen {g : Gd} {order : List Nat} {c : Nat} : ∀ (n : Nat) {sts : List NS} (h : Ok g order c sts) (ins : List (List Nat)), (runS g order n sts ins).1.length = g.nodes.length
  | 0, sts, h, ins => by simp [runS]
  | n + 1, sts, h, ins => by
    simp only [runS, List.length_zipWith]
    rw [h.plen, Ok.rlen n (h.next _ _), Nat.min_self]
theorem Ok.run {g : Gd} {order : List Nat} {c : Nat} : ∀ (n : Nat) {sts : List NS} (h : Ok g order c sts) (ins : List (List Nat)), Ok g order c (runS g order n sts ins).2
  | 0, sts, h, ins => h
  | n + 1, sts, h, ins => Ok.run n (h.next _ _) _

/-- A piece that no delay is shorter than is sample by sample. -/
theorem piece_run {g : Gd} {order : List Nat} {c : Nat} : ∀ (m : Nat) {sts : List NS} {ins : List (List Nat)}, Ok g order c sts → (∀ l ∈ ins, l.length = m + 1) → (ins.length : Int) = g.ins → m + 1 ≤ c → pieceN g order sts ins (m + 1) = runS g order (m + 1) sts ins
  | 0, sts, ins, h, hi, hil, hc => by
    have e : ins.map (List.take 1) = ins := by
      conv => rhs; rw [← List.map_id ins]
      apply List.map_congr_left
      intro l hl
      exact List.take_of_length_le (by rw [hi l hl]; exact Nat.le_refl _)
    simp only [runS, e]
    have hl := h.plen ins 1
    rw [Nat.zero_add, ← hl, zip_app_nil]
  | m + 1, sts, ins, h, hi, hil, hc => by
    have hsp := piece_split (n := 1) (m := m + 1) h.ord h.ok (ins := ins) (fun l hl => by rw [hi l hl]; omega) hil (h.ring.mono (by omega))
    rw [show 1 + (m + 1) = m + 1 + 1 from by omega] at hsp
    obtain ⟨h1, h2, h3⟩ := hsp
    have ih := piece_run m (sts := (pieceN g order sts (ins.map (List.take 1)) 1).2) (ins := ins.map (List.drop 1)) (h.next _ _) (fun l hl => by
      rw [List.mem_map] at hl
      obtain ⟨l0, hl0, rfl⟩ := hl
      rw [List.length_drop, hi l0 hl0]
      omega) (by rw [List.length_map]; exact hil) (by omega)
    have e : runS g order (m + 1 + 1) sts ins = (List.zipWith (· ++ ·) (pieceN g order sts (ins.map (List.take 1)) 1).1 (runS g order (m + 1) (pieceN g order sts (ins.map (List.take 1)) 1).2 (ins.map (List.drop 1))).1, (runS g order (m + 1) (pieceN g order sts (ins.map (List.take 1)) 1).2 (ins.map (List.drop 1))).2) := rfl
    rw [e, ← ih, ← h1, ← h2, zip_take_drop, h3]

/-- Runs, one behind the other. -/
theorem run_add {g : Gd} {order : List Nat} {c : Nat} : ∀ (a b : Nat) {sts : List NS} (ins : List (List Nat)), Ok g order c sts →
    runS g order (a + b) sts ins = (List.zipWith (· ++ ·) (runS g order a sts (ins.map (List.take a))).1 (runS g order b (runS g order a sts (ins.map (List.take a))).2 (ins.map (List.drop a))).1, (runS g order b (runS g order a sts (ins.map (List.take a))).2 (ins.map (List.drop a))).2)
  | 0, b, sts, ins, h => by
    have e : ins.map (List.drop 0) = ins := by
      conv => rhs; rw [← List.map_id ins]
      apply List.map_congr_left
      intro l _
      rfl
    have hl := Ok.rlen b h ins
    simp only [runS, Nat.zero_add, e]
    rw [← hl, zip_nil_app]
  | a + 1, b, sts, ins, h => by
    rw [show a + 1 + b = (a + b) + 1 from by omega]
    have e1 : (ins.map (List.take (a + 1))).map (List.take 1) = ins.map (List.take 1) := by
      rw [List.map_map]
      apply List.map_congr_left
      intro l _
      simp only [Function.comp, List.take_take]
      congr 1
      try omega
    have e2 : (ins.map (List.drop 1)).map (List.take a) = (ins.map (List.take (a + 1))).map (List.drop 1) := by
      rw [List.map_map, List.map_map]
      apply List.map_congr_left
      intro l _
      simp only [Function.comp]
      rw [List.drop_take]
      rfl
    have e3 : (ins.map (List.drop 1)).map (List.drop a) = ins.map (List.drop (a + 1)) := by
      rw [List.map_map]
      apply List.map_congr_left
      intro l _
      simp only [Function.comp, List.drop_drop]
      congr 1
      try omega
    have ih := run_add a b (sts := (pieceN g order sts (ins.map (List.take 1)) 1).2) (ins.map (List.drop 1)) (h.next _ _)
    rw [e2, e3] at ih
    have s1 : ∀ (n : Nat) (st : List NS) (I : List (List Nat)), runS g order (n + 1) st I = (List.zipWith (· ++ ·) (pieceN g order st (I.map (List.take 1)) 1).1 (runS g order n (pieceN g order st (I.map (List.take 1)) 1).2 (I.map (List.drop 1))).1, (runS g order n (pieceN g order st (I.map (List.take 1)) 1).2 (I.map (List.drop 1))).2) := fun _ _ _ => rfl
    rw [s1 (a + b), ih, s1 a sts (ins.map (List.take (a + 1))), e1]
    dsimp only
    rw [zip_assoc]

theorem zip_getD : ∀ (a b : List (List Nat)) (k : Nat), a.length = b.length → (List.zipWith (· ++ ·) a b).getD k [] = a.getD k [] ++ b.getD k []
  | [], [], k, _ => by simp
  | [], _ :: _, k, h => by simp at h
  | _ :: _, [], k, h => by simp at h
  | x :: a, y :: b, 0, _ => rfl
  | x :: a, y :: b, k + 1, h => by
    simp only [List.zipWith_cons_cons, List.getD_cons_succ]
    exact zip_getD a b k (by simpa using h)
theorem zip_outs (P Q : List (List Nat)) (hpq : P.length = Q.length) : ∀ (outs : List (List Nat)) (go : List Int),
    List.zipWith (fun o (k : Int) => o ++ Q.getD k.toNat []) (List.zipWith (fun o (k : Int) => o ++ P.getD k.toNat []) outs go) go = List.zipWith (fun o (k : Int) => o ++ (List.zipWith (· ++ ·) P Q).getD k.toNat []) outs go
  | [], go => by simp
  | _ :: _, [] => by simp
  | o :: outs, k :: go => by
    simp only [List.zipWith_cons_cons]
    rw [zip_outs P Q hpq outs go, zip_getD P Q k.toNat hpq, List.append_assoc]
theorem zip_same (n : Nat) : ∀ (outs : List (List Nat)) (go : List Int), outs.length = go.length → List.zipWith (fun o (k : Int) => o ++ (List.replicate n ([] : List Nat)).getD k.toNat []) outs go = outs
  | [], [], _ => rfl
  | [], _ :: _, h => by simp at h
  | _ :: _, [], h => by simp at h
  | o :: outs, k :: go, h => by
    simp only [List.zipWith_cons_cons]
    rw [zip_same n outs go (by simpa using h)]
    congr 1
    rw [List.getD_eq_getElem?_getD, List.getElem?_replicate]
    split <;> simp

/-- All chunks of a run. -/
theorem chunks_run {g : Gd} {order : List Nat} {chunk : Nat} (hc : 0 < chunk) (ins : List (List Nat)) (n : Nat) (hi : ∀ l ∈ ins, l.length = n) (hil : (ins.length : Int) = g.ins) : ∀ (f a : Nat) (sts : List NS) (outs : List (List Nat)), Ok g order chunk sts → outs.length = g.outs.length → n ≤ a + f → a ≤ n →
    chunksN g order chunk ins n f a sts outs = (List.zipWith (fun o (k : Int) => o ++ (runS g order (n - a) sts (ins.map (List.drop a))).1.getD k.toNat []) outs g.outs, (runS g order (n - a) sts (ins.map (List.drop a))).2)
  | 0, a, sts, outs, h, hl, hf, ha => by
    have e : n - a = 0 := by omega
    rw [e]
    simp only [runS, chunksN]
    rw [zip_same _ outs g.outs hl]
  | f + 1, a, sts, outs, h, hl, hf, ha => by
    unfold chunksN
    by_cases han : a < n
    · rw [if_pos han]
      dsimp only
      obtain ⟨m, hm⟩ : ∃ m, min chunk (n - a) = m + 1 := ⟨min chunk (n - a) - 1, by omega⟩
      rw [hm]
      have hmc : m + 1 ≤ chunk := by omega
      have hma : a + (m + 1) ≤ n := by omega
      have e1 : (ins.map fun l => (l.drop a).take (m + 1)) = (ins.map (List.drop a)).map (List.take (m + 1)) := by
        rw [List.map_map]
        rfl
      have hp := piece_run m (sts := sts) (ins := (ins.map (List.drop a)).map (List.take (m + 1))) h (fun l hl => by
        rw [List.mem_map] at hl
        obtain ⟨l1, hl1, rfl⟩ := hl
        rw [List.mem_map] at hl1
        obtain ⟨l0, hl0, rfl⟩ := hl1
        rw [List.length_take, List.length_drop, hi l0 hl0]
        omega) (by rw [List.length_map, List.length_map]; exact hil) hmc
      rw [e1, hp]
      have hok := Ok.run (m + 1) h ((ins.map (List.drop a)).map (List.take (m + 1)))
      have ih := chunks_run hc ins n hi hil f (a + (m + 1)) (runS g order (m + 1) sts ((ins.map (List.drop a)).map (List.take (m + 1)))).2 (List.zipWith (fun o (k : Int) => o ++ (runS g order (m + 1) sts ((ins.map (List.drop a)).map (List.take (m + 1)))).1.getD k.toNat []) outs g.outs) hok (by rw [List.length_zipWith, hl, Nat.min_self]) (by omega) hma
      rw [ih]
      have e2 : ins.map (List.drop (a + (m + 1))) = (ins.map (List.drop a)).map (List.drop (m + 1)) := by
        rw [List.map_map]
        apply List.map_congr_left
        intro l _
        simp only [Function.comp, List.drop_drop]
      have hra := run_add (m + 1) (n - (a + (m + 1))) (ins.map (List.drop a)) h
      rw [show m + 1 + (n - (a + (m + 1))) = n - a from by omega] at hra
      rw [hra, e2]
      dsimp only
      rw [zip_outs _ _ (by rw [Ok.rlen _ h, Ok.rlen _ hok])]
    · rw [if_neg han]
      have e : n - a = 0 := by omega
      rw [e]
      simp only [runS]
      rw [zip_same _ outs g.outs hl]

/-- A run that is right, sample by sample. -/
theorem runG_run {g : Gd} {order : List Nat} {chunk : Nat} (hc : 0 < chunk) {sts : List NS} (h : Ok g order chunk sts) {ins : List (List Nat)} {n : Nat} (hr : rightE g ins (n : Int) = 0) :
    runG g order chunk sts ins (n : Int) = ((g.outs.map fun k : Int => (runS g order n sts ins).1.getD k.toNat [], 0), (runS g order n sts ins).2) := by
  have hr2 := hr
  unfold rightE at hr
  split at hr
  · cases hr
  split at hr
  · cases hr
  split at hr
  · cases hr
  rename_i h1 h2 h3
  have hil : (ins.length : Int) = g.ins := Classical.byContradiction fun e => h2 e
  have hi : ∀ l ∈ ins, l.length = n := fun l hl => by
    have h4 : decide ((l.length : Int) ≠ (n : Int)) = false := by
      cases hb : decide ((l.length : Int) ≠ (n : Int)) with
      | false => rfl
      | true => exact absurd (List.any_eq_true.2 ⟨l, hl, hb⟩) h3
    have h5 := of_decide_eq_false h4
    have h6 : (l.length : Int) = (n : Int) := Classical.byContradiction fun e => h5 e
    omega
  unfold runG
  rw [hr2, if_neg (by simp)]
  dsimp only
  rw [Int.toNat_natCast, chunks_run hc ins n hi hil n 0 sts (List.replicate g.outs.length []) h (by rw [List.length_replicate]) (by omega) (Nat.zero_le _)]
  have e : ins.map (List.drop 0) = ins := by
    conv => rhs; rw [← List.map_id ins]
    apply List.map_congr_left
    intro l _
    rfl
  have e2 : List.zipWith (fun o (k : Int) => o ++ (runS g order (n - 0) sts (ins.map (List.drop 0))).1.getD k.toNat []) (List.replicate g.outs.length []) g.outs = g.outs.map fun k : Int => (runS g order n sts ins).1.getD k.toNat [] := by
    rw [e, Nat.sub_zero]
    have : ∀ go : List Int, List.zipWith (fun o (k : Int) => o ++ (runS g order n sts ins).1.getD k.toNat []) (List.replicate go.length []) go = go.map fun k : Int => (runS g order n sts ins).1.getD k.toNat [] := by
      intro go
      induction go with
      | nil => rfl
      | cons k go ih => simp only [List.length_cons, List.replicate_succ, List.zipWith_cons_cons, List.nil_append, List.map_cons, ih]
    exact this g.outs
  rw [e2, e, Nat.sub_zero]
end Go.Proofs.Ytdliilmnfbgplaa.GSteps

/- Pieces, however cut, are what is made at once: plain. -/
namespace Go.Proofs.Ytdliilmnfbgplaa.GBlocksP
open Go Go.Proofs.Ytdliilmnfbgplaa.Fl Go.Proofs.Ytdliilmnfbgplaa.GMod Go.Proofs.Ytdliilmnfbgplaa.GOrd Go.Proofs.Ytdliilmnfbgplaa.GNode4 Go.Proofs.Ytdliilmnfbgplaa.GPState Go.Proofs.Ytdliilmnfbgplaa.GOuts Go.Proofs.Ytdliilmnfbgplaa.GRestsP Go.Proofs.Ytdliilmnfbgplaa.GSol Go.Proofs.Ytdliilmnfbgplaa.GSplit Go.Proofs.Ytdliilmnfbgplaa.GSteps
set_option linter.unusedVariables false
set_option linter.unusedSimpArgs false

/-- So long is a cut. -/
def cutC (n at_ : Nat) (c : Int) : Nat := if c < 0 ∨ ((n - at_ : Nat) : Int) < c then n - at_ else c.toNat
/-- The pieces of what comes in. -/
def cutP (ins : List (List Nat)) (n : Nat) : List Int → Nat → List Pc
  | [], _ => []
  | c :: cs, a => ⟨ins.map fun l => (l.drop a).take (cutC n a c), (cutC n a c : Int), false⟩ :: cutP ins n cs (a + cutC n a c)
def cutE (n : Nat) : List Int → Nat → Nat
  | [], a => a
  | c :: cs, a => cutE n cs (a + cutC n a c)
theorem cutC_le {n a : Nat} (c : Int) (h : a ≤ n) : a + cutC n a c ≤ n := by
  unfold cutC
  split <;> omega
theorem cutE_last (n : Nat) : ∀ (cs : List Int) (a : Nat), a ≤ n → cutE n (cs ++ [(n : Int)]) a = n
  | [], a, h => by
    simp only [List.nil_append, cutE, cutC]
    split <;> omega
  | c :: cs, a, h => by
    simp only [List.cons_append, cutE]
    exact cutE_last n cs _ (cutC_le c h)
theorem cutP_len (ins : List (List Nat)) (n : Nat) : ∀ (cs : List Int) (a : Nat), (cutP ins n cs a).length = cs.length
  | [], a => rfl
  | c :: cs, a => by simp [cutP, cutP_len ins n cs]
theorem cutP_append (ins : List (List Nat)) (n : Nat) : ∀ (cs ds : List Int) (a : Nat), cutP ins n (cs ++ ds) a = cutP ins n cs a ++ cutP ins n ds (cutE n cs a)
  | [], ds, a => rfl
  | c :: cs, ds, a => by
    simp only [List.cons_append, cutP, cutE]
    rw [cutP_append ins n cs ds]
theorem cutE_append (n : Nat) : ∀ (cs ds : List Int) (a : Nat), cutE n (cs ++ ds) a = cutE n ds (cutE n cs a)
  | [], ds, a => rfl
  | c :: cs, ds, a => cutE_append n cs ds _
theorem cutE_le (n : Nat) : ∀ (cs : List Int) (a : Nat), a ≤ n → cutE n cs a ≤ n ∧ a ≤ cutE n cs a
  | [], a, h => ⟨h, Nat.le_refl _⟩
  | c :: cs, a, h => by
    have h1 := cutC_le c h
    have h2 := cutE_le n cs _ h1
    exact ⟨h2.1, Nat.le_trans (Nat.le_add_right _ _) h2.2⟩

/-- All that is heard, one behind the other. -/
def catN (rs : List (List (List Nat) × Int)) (acc : List (List Nat)) : List (List Nat) := rs.foldl (fun acc r => List.zipWith (· ++ ·) acc r.1) acc

theorem right_cut {g : Gd} {ins : List (List Nat)} {n : Nat} (hi : ∀ l ∈ ins, l.length = n) (hn : n ≤ 65536) {a : Nat} (c : Int) (ha : a ≤ n) : rightE g (ins.map fun l => (l.drop a).take (cutC n a c)) (cutC n a c : Int) = if (ins.length : Int) ≠ g.ins then 8 else 0 := by
  have hc := cutC_le c ha
  unfold rightE
  rw [if_neg (by omega), List.length_map]
  split
  · rfl
  · rw [if_neg]
    intro e
    obtain ⟨l, hl, hd⟩ := List.any_eq_true.1 e
    rw [List.mem_map] at hl
    obtain ⟨l0, hl0, rfl⟩ := hl
    have h1 := of_decide_eq_true hd
    rw [List.length_take, List.length_drop, hi l0 hl0] at h1
    omega
theorem right_all {g : Gd} {ins : List (List Nat)} {n : Nat} (hi : ∀ l ∈ ins, l.length = n) (hn : n ≤ 65536) : rightE g ins (n : Int) = if (ins.length : Int) ≠ g.ins then 8 else 0 := by
  unfold rightE
  rw [if_neg (by omega)]
  split
  · rfl
  · rw [if_neg]
    intro e
    obtain ⟨l, hl, hd⟩ := List.any_eq_true.1 e
    have h1 := of_decide_eq_true hd
    rw [hi l hl] at h1
    omega

theorem map_getD_zip (P Q : List (List Nat)) (h : P.length = Q.length) : ∀ (go : List Int), List.zipWith (· ++ ·) (go.map fun k : Int => P.getD k.toNat []) (go.map fun k : Int => Q.getD k.toNat []) = go.map fun k : Int => (List.zipWith (· ++ ·) P Q).getD k.toNat []
  | [] => rfl
  | k :: go => by
    simp only [List.map_cons, List.zipWith_cons_cons]
    rw [map_getD_zip P Q h go, zip_getD P Q k.toNat h]

/-- The pieces' rows, one behind the other, are those of all at once. -/
theorem blocks_run {g : Gd} {order : List Nat} {chunk : Nat} (hc : 0 < chunk) {ins : List (List Nat)} {n : Nat} (hi : ∀ l ∈ ins, l.length = n) (hil : (ins.length : Int) = g.ins) (hn : n ≤ 65536) : ∀ (cs : List Int) (a : Nat) (sts : List NS) (acc : List (List Nat)), Ok g order chunk sts → a ≤ n → acc.length = g.outs.length →
    (∀ r ∈ soundG g order chunk sts (cutP ins n cs a), r.2 = 0 ∧ r.1.length = g.outs.length) ∧
    catN (soundG g order chunk sts (cutP ins n cs a)) acc = List.zipWith (· ++ ·) acc (g.outs.map fun k : Int => (runS g order (cutE n cs a - a) sts (ins.map fun l => (l.drop a).take (cutE n cs a - a))).1.getD k.toNat [])
  | [], a, sts, acc, h, ha, hl => by
    refine ⟨fun r hr => by simp [cutP, soundG] at hr, ?_⟩
    simp only [cutP, soundG, catN, List.foldl_nil, cutE, Nat.sub_self, runS]
    have : ∀ (acc : List (List Nat)) (go : List Int), acc.length = go.length → List.zipWith (· ++ ·) acc (go.map fun k : Int => (List.replicate g.nodes.length ([] : List Nat)).getD k.toNat []) = acc := by
      intro acc
      induction acc with
      | nil => intro go _; simp
      | cons o acc ih =>
        intro go hgo
        cases go with
        | nil => simp at hgo
        | cons k go =>
          simp only [List.map_cons, List.zipWith_cons_cons]
          rw [ih go (by simpa using hgo), List.getD_eq_getElem?_getD, List.getElem?_replicate]
          congr 1
          split <;> simp
    exact (this acc g.outs hl).symm
  | c :: cs, a, sts, acc, h, ha, hl => by
    have hcl := cutC_le c ha
    have hce := cutE_le n cs (a + cutC n a c) hcl
    have hrt := right_cut (g := g) hi hn c ha
    rw [if_neg (fun e => e hil)] at hrt
    have hrun := runG_run hc h hrt
    obtain ⟨m, hm⟩ : ∃ m, cutC n a c = m := ⟨_, rfl⟩
    obtain ⟨e, he⟩ : ∃ e, cutE n cs (a + m) = e := ⟨_, rfl⟩
    rw [hm] at hcl hce hrun
    rw [he] at hce
    have ih := blocks_run hc hi hil hn cs (a + m) (runS g order m sts (ins.map fun l => (l.drop a).take m)).2 (List.zipWith (· ++ ·) acc (g.outs.map fun k : Int => (runS g order m sts (ins.map fun l => (l.drop a).take m)).1.getD k.toNat [])) (Ok.run m h _) hcl (by rw [List.length_zipWith, List.length_map, hl, Nat.min_self])
    have hs : soundG g order chunk sts (cutP ins n (c :: cs) a) = (runG g order chunk sts (ins.map fun l => (l.drop a).take m) (m : Int)).1 :: soundG g order chunk (runG g order chunk sts (ins.map fun l => (l.drop a).take m) (m : Int)).2 (cutP ins n cs (a + m)) := by
      simp only [cutP, soundG, Bool.false_eq_true, if_false, hm]
    rw [hs, hrun]
    dsimp only
    refine ⟨fun r hr => ?_, ?_⟩
    · rw [List.mem_cons] at hr
      rcases hr with rfl | hr
      · exact ⟨rfl, by dsimp only; rw [List.length_map]⟩
      · exact ih.1 r hr
    · have h2 := ih.2
      rw [he] at h2
      have e2 : cutE n (c :: cs) a = e := by simp only [cutE, hm]; exact he
      rw [e2]
      show catN _ (List.zipWith (· ++ ·) acc (g.outs.map fun k : Int => (runS g order m sts (ins.map fun l => (l.drop a).take m)).1.getD k.toNat [])) = _
      rw [h2]
      have hra := run_add m (e - (a + m)) (ins.map fun l => (l.drop a).take (e - a)) h
      rw [show m + (e - (a + m)) = e - a from by omega] at hra
      have e3 : (ins.map fun l => (l.drop a).take (e - a)).map (List.take m) = ins.map fun l => (l.drop a).take m := by
        rw [List.map_map]
        apply List.map_congr_left
        intro l _
        simp only [Function.comp, List.take_take]
        congr 1
        omega
      have e4 : (ins.map fun l => (l.drop a).take (e - a)).map (List.drop m) = ins.map fun l => (l.drop (a + m)).take (e - (a + m)) := by
        rw [List.map_map]
        apply List.map_congr_left
        intro l _
        simp only [Function.comp]
        rw [List.drop_take, List.drop_drop]
        congr 1
        omega
      rw [e3, e4] at hra
      rw [hra]
      dsimp only
      rw [zip_assoc, map_getD_zip _ _ (by rw [Ok.rlen _ h, Ok.rlen _ (Ok.run m h _)])]

/-- .. where what comes in fits not, no piece does. -/
theorem blocks_bad {g : Gd} {order : List Nat} {chunk : Nat} {ins : List (List Nat)} {n : Nat} (hi : ∀ l ∈ ins, l.length = n) (hil : (ins.length : Int) ≠ g.ins) (hn : n ≤ 65536) (c : Int) (cs : List Int) (sts : List NS) :
    ∃ rs, soundG g order chunk sts (cutP ins n (c :: cs) 0) = ([], 8) :: rs := by
  have hrt := right_cut (g := g) hi hn c (Nat.zero_le n)
  rw [if_pos hil] at hrt
  have hs : soundG g order chunk sts (cutP ins n (c :: cs) 0) = (runG g order chunk sts (ins.map fun l => (l.drop 0).take (cutC n 0 c)) (cutC n 0 c : Int)).1 :: soundG g order chunk (runG g order chunk sts (ins.map fun l => (l.drop 0).take (cutC n 0 c)) (cutC n 0 c : Int)).2 (cutP ins n cs (0 + cutC n 0 c)) := by
    simp only [cutP, soundG, Bool.false_eq_true, if_false]
  have e : (runG g order chunk sts (ins.map fun l => (l.drop 0).take (cutC n 0 c)) (cutC n 0 c : Int)).1 = ([], 8) := by
    unfold runG
    rw [hrt, if_pos (by decide)]
  exact ⟨_, by rw [hs, e]⟩

/-- The law, in plain words: all pieces are right and together what is made at once; or none fits. -/
theorem blocks {g : Gd} {order : List Nat} {chunk : Nat} (hc : 0 < chunk) {ins : List (List Nat)} {n : Nat} (hi : ∀ l ∈ ins, l.length = n) (hn : n ≤ 65536) {sts : List NS} (h : Ok g order chunk sts) (cs : List Int) :
    ((ins.length : Int) = g.ins ∧ (∀ r ∈ soundG g order chunk sts (cutP ins n (cs ++ [(n : Int)]) 0), r.2 = 0 ∧ r.1.length = g.outs.length) ∧ ∃ o, runG g order chunk sts ins (n : Int) = ((o, 0), (runG g order chunk sts ins (n : Int)).2) ∧ o.length = g.outs.length ∧ catN (soundG g order chunk sts (cutP ins n (cs ++ [(n : Int)]) 0)) (List.replicate g.outs.length []) = o) ∨
    ((ins.length : Int) ≠ g.ins ∧ (∃ rs, soundG g order chunk sts (cutP ins n (cs ++ [(n : Int)]) 0) = ([], 8) :: rs) ∧ (runG g order chunk sts ins (n : Int)).1 = ([], 8)) := by
  by_cases hil : (ins.length : Int) = g.ins
  · left
    have hrt := right_all (g := g) hi hn
    rw [if_neg (fun e => e hil)] at hrt
    have hrun := runG_run hc h hrt
    have hb := blocks_run hc hi hil hn (cs ++ [(n : Int)]) 0 sts (List.replicate g.outs.length []) h (Nat.zero_le _) (by rw [List.length_replicate])
    refine ⟨hil, hb.1, g.outs.map fun k : Int => (runS g order n sts ins).1.getD k.toNat [], by rw [hrun], by rw [List.length_map], ?_⟩
    rw [hb.2, cutE_last n cs 0 (Nat.zero_le _), Nat.sub_zero]
    have e : (ins.map fun l => (l.drop 0).take n) = ins := by
      conv => rhs; rw [← List.map_id ins]
      apply List.map_congr_left
      intro l hl
      exact List.take_of_length_le (by rw [List.drop_zero, hi l hl]; exact Nat.le_refl _)
    rw [e]
    have hz := zip_nil_app (g.outs.map fun k : Int => (runS g order n sts ins).1.getD k.toNat [])
    rw [List.length_map] at hz
    exact hz
  · right
    refine ⟨hil, ?_, ?_⟩
    · cases cs with
      | nil => exact blocks_bad hi hil hn _ _ _
      | cons c cs => exact blocks_bad hi hil hn c _ _
    · unfold runG
      rw [right_all hi hn, if_pos hil, if_pos (by decide)]
end Go.Proofs.Ytdliilmnfbgplaa.GBlocksP

/- A graph that was laid out, at first: plain. -/
namespace Go.Proofs.Ytdliilmnfbgplaa.GStart
open Go Go.Proofs.Ytdliilmnfbgplaa.Fl Go.Proofs.Ytdliilmnfbgplaa.GMod Go.Proofs.Ytdliilmnfbgplaa.GOrd Go.Proofs.Ytdliilmnfbgplaa.GNode4 Go.Proofs.Ytdliilmnfbgplaa.GPState Go.Proofs.Ytdliilmnfbgplaa.GSort1 Go.Proofs.Ytdliilmnfbgplaa.GSort Go.Proofs.Ytdliilmnfbgplaa.GNewS Go.Proofs.Ytdliilmnfbgplaa.GNewF Go.Proofs.Ytdliilmnfbgplaa.GSol Go.Proofs.Ytdliilmnfbgplaa.GSplit Go.Proofs.Ytdliilmnfbgplaa.GSteps
set_option linter.unusedVariables false
set_option linter.unusedSimpArgs false

theorem first_ok (g : Gd) : ∀ (l : List Nd), firstE g l = 0 → ∀ x ∈ l, madeE g x = 0
  | [], _, x, hx => by simp at hx
  | y :: l, h, x, hx => by
    unfold firstE at h
    split at h
    · rename_i h1
      exact absurd h h1
    · rename_i h1
      have h2 : madeE g y = 0 := Classical.byContradiction fun e => h1 e
      rw [List.mem_cons] at hx
      rcases hx with rfl | hx
      · exact h2
      · exact first_ok g l h x hx
/-- What holds where nothing is wrong. -/
theorem pre_ok {g : Gd} (h : preE g = 0) : g.nodes.length ≤ 256 ∧ g.outs.length ≤ 256 ∧ (0 ≤ g.ins ∧ g.ins ≤ 16) ∧ (∀ x ∈ g.nodes, madeE g x = 0) ∧ (∀ k ∈ g.outs, 0 ≤ k ∧ k < (g.nodes.length : Int)) := by
  unfold preE at h
  by_cases h1 : 256 < g.nodes.length ∨ 256 < g.outs.length ∨ g.ins < 0 ∨ 16 < g.ins
  · rw [if_pos h1] at h; cases h
  rw [if_neg h1] at h
  by_cases h2 : firstE g g.nodes ≠ 0
  · rw [if_pos h2] at h; exact absurd h h2
  rw [if_neg h2] at h
  by_cases h3 : g.outs.any (badRef g.nodes.length) = true
  · rw [if_pos h3] at h; cases h
  have h4 : firstE g g.nodes = 0 := Classical.byContradiction fun e => h2 e
  refine ⟨by omega, by omega, by omega, first_ok g g.nodes h4, fun k hk => ?_⟩
  have h5 : badRef g.nodes.length k = false := by
    cases hb : badRef g.nodes.length k with
    | false => rfl
    | true => exact absurd (List.any_eq_true.2 ⟨k, hk, hb⟩) h3
  unfold badRef at h5
  simp only [Bool.or_eq_false_iff, decide_eq_false_iff_not] at h5
  omega

theorem zeros_rep (n : Nat) : zeros (List.replicate n 0) = n := by simp [zeros]
theorem vis_sorted {g : Gd} {s : Sr} (h : Vis g (s0 g.nodes.length) (.inr (List.range g.nodes.length)) true s) : Sorted g s.order ∧ s.order.length ≤ g.nodes.length := by
  have hoi := vis_ord h (ordi_s0 g _) rfl
  have hk := vis_keep h
  have hlen : s.st.length = g.nodes.length := by rw [hk.1]; simp [s0]
  refine ⟨⟨fun j => ?_, hoi.nodup, hoi.pre⟩, ?_⟩
  · rw [hoi.mem j]
    constructor
    · rintro ⟨h1, h2⟩
      refine ⟨?_, h2⟩
      rcases Nat.lt_or_ge j s.st.length with h3 | h3
      · omega
      · rw [List.getD_eq_getElem?_getD, List.getElem?_eq_none h3] at h1
        cases h1
    · rintro ⟨h1, h2⟩
      exact ⟨hk.2.2.2 rfl j (List.mem_range.2 h1), h2⟩
  · have := vis_len h
    unfold s0 at this
    dsimp only at this
    rw [zeros_rep] at this
    simp only [List.length_nil, Nat.zero_add] at this
    omega

theorem fold_le : ∀ (l : List Nd) (c : Nat), (l.foldl (fun c x => if x.kind = 6 then min c x.n.toNat else c) c) ≤ c ∧ ∀ x ∈ l, x.kind = 6 → (l.foldl (fun c x => if x.kind = 6 then min c x.n.toNat else c) c) ≤ x.n.toNat
  | [], c => ⟨Nat.le_refl _, fun x hx => by simp at hx⟩
  | y :: l, c => by
    simp only [List.foldl_cons]
    have ih := fold_le l (if y.kind = 6 then min c y.n.toNat else c)
    refine ⟨Nat.le_trans ih.1 (by split <;> omega), fun x hx h6 => ?_⟩
    rw [List.mem_cons] at hx
    rcases hx with rfl | hx
    · refine Nat.le_trans ih.1 ?_
      rw [if_pos h6]
      omega
    · exact ih.2 x hx h6
theorem fold_pos : ∀ (l : List Nd) (c : Nat), 0 < c → (∀ x ∈ l, x.kind = 6 → 1 ≤ x.n) → 0 < l.foldl (fun c x => if x.kind = 6 then min c x.n.toNat else c) c
  | [], c, h, _ => h
  | y :: l, c, h, hx => by
    simp only [List.foldl_cons]
    refine fold_pos l _ ?_ (fun x hm => hx x (List.mem_cons_of_mem _ hm))
    split
    · rename_i h6
      have := hx y (List.mem_cons_self ..) h6
      omega
    · exact h

/-- At first all is as a run asks. -/
theorem start_ok {g : Gd} (hp : preE g = 0) (hfl : ∀ x ∈ g.nodes, x.from_.length ≤ 1048576) {s : Sr} (h : Vis g (s0 g.nodes.length) (.inr (List.range g.nodes.length)) true s) : Ok g s.order (chunkK g.nodes) (g.nodes.map GMod.start) ∧ 0 < chunkK g.nodes := by
  obtain ⟨h1, h2, h3, h4, h5⟩ := pre_ok hp
  obtain ⟨hs, hl⟩ := vis_sorted h
  refine ⟨⟨hs, gok_new h1 h4 hfl h hl h2 h5 h3, fun st hst r a e => ?_⟩, ?_⟩
  · rw [List.mem_map] at hst
    obtain ⟨x, hx, rfl⟩ := hst
    have hd : x.kind = 6 := by
      have := start_del x
      rw [e] at this
      exact of_decide_eq_true this.symm
    have h6 := (made_ok (h4 x hx)).2.2.2.2.1 hd
    have he : GMod.start x = .del (List.replicate x.n.toNat 0) 0 := by unfold GMod.start; simp [hd]
    rw [he] at e
    injection e with e1 e2
    subst e1 e2
    rw [List.length_replicate]
    exact ⟨by omega, (fold_le g.nodes 65536).2 x hx hd⟩
  · exact fold_pos g.nodes 65536 (by decide) (fun x hx h6 => ((made_ok (h4 x hx)).2.2.2.2.1 h6).1)
end Go.Proofs.Ytdliilmnfbgplaa.GStart
