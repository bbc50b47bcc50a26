/- In whatever order the nodes stand, the same is heard: plain. -/
import Derived.Test.YtdliilmnfbgplaaGM8
import Derived.Test.YtdliilmnfbgplaaGM9
namespace Go.Proofs.Ytdliilmnfbgplaa.GOrderP
open Go Go.Proofs.Ytdliilmnfbgplaa.Fl Go.Proofs.Ytdliilmnfbgplaa.GMod Go.Proofs.Ytdliilmnfbgplaa.GOrd Go.Proofs.Ytdliilmnfbgplaa.GNode4 Go.Proofs.Ytdliilmnfbgplaa.GPState Go.Proofs.Ytdliilmnfbgplaa.GOuts Go.Proofs.Ytdliilmnfbgplaa.GSort Go.Proofs.Ytdliilmnfbgplaa.GNewS Go.Proofs.Ytdliilmnfbgplaa.GNewF Go.Proofs.Ytdliilmnfbgplaa.GRestsP Go.Proofs.Ytdliilmnfbgplaa.GSol Go.Proofs.Ytdliilmnfbgplaa.GSplit Go.Proofs.Ytdliilmnfbgplaa.GSteps Go.Proofs.Ytdliilmnfbgplaa.GStart
set_option linter.unusedVariables false
set_option linter.unusedSimpArgs false

/-- Nodes in another order: who stands where, and where each stands. -/
structure Prm (n : Nat) (os tl : List Nat) : Prop where
  ol : os.length = n
  tl' : tl.length = n
  ot : ∀ k, k < n → os.getD k 0 < n ∧ tl.getD (os.getD k 0) 0 = k
  ti : ∀ i, i < n → tl.getD i 0 < n ∧ os.getD (tl.getD i 0) 0 = i

theorem nodup_le : ∀ (n : Nat) (l : List Nat), l.Nodup → (∀ x ∈ l, x < n) → l.length ≤ n
  | 0, l, _, h => by
    cases l with
    | nil => exact Nat.le_refl _
    | cons x l => exact absurd (h x (List.mem_cons_self ..)) (by omega)
  | n + 1, l, hn, h => by
    by_cases hm : n ∈ l
    · have h1 := nodup_le n (l.erase n) (hn.erase n) (fun x hx => by
        have h2 := (List.Nodup.mem_erase_iff hn).1 hx
        have h3 := h x h2.2
        have := h2.1
        omega)
      rw [List.length_erase_of_mem hm] at h1
      omega
    · have h1 := nodup_le n l hn (fun x hx => by
        have h3 := h x hx
        have : x ≠ n := fun e => hm (e ▸ hx)
        omega)
      omega
theorem all_mem {n : Nat} {l : List Nat} (hn : l.Nodup) (h : ∀ x ∈ l, x < n) (hl : l.length = n) : ∀ i, i < n → i ∈ l := by
  intro i hi
  refine Classical.byContradiction fun hm => ?_
  have := nodup_le n (i :: l) (List.nodup_cons.2 ⟨hm, hn⟩) (fun x hx => by
    rw [List.mem_cons] at hx
    rcases hx with rfl | hx
    · exact hi
    · exact h x hx)
  rw [List.length_cons] at this
  omega

def dN : Nd := ⟨0, [], 0, 0, ⟨0, 0, 0, 0, 0⟩, ⟨0, 0, 0, 0, 0, 0, 0⟩⟩
def mvR (tl : List Nat) (k : Int) : Int := ((tl.getD k.toNat 0 : Nat) : Int)
def mvN (tl : List Nat) (x : Nd) : Nd := { x with from_ := x.from_.map (mvR tl) }
/-- The graph with its nodes in another order. -/
def permG (g : Gd) (os tl : List Nat) : Gd := ⟨g.ins, os.map fun i => mvN tl (g.nodes.getD i dN), g.outs.map (mvR tl)⟩
/-- All that is asked for is there. -/
def RefsOk (g : Gd) : Prop := (∀ x ∈ g.nodes, ∀ k ∈ x.from_, 0 ≤ k ∧ k < (g.nodes.length : Int)) ∧ ∀ k ∈ g.outs, 0 ≤ k ∧ k < (g.nodes.length : Int)

section
variable {g : Gd} {os tl : List Nat}
theorem perm_len (h : Prm g.nodes.length os tl) : (permG g os tl).nodes.length = g.nodes.length := by
  show (os.map _).length = _
  rw [List.length_map, h.ol]
theorem perm_at (h : Prm g.nodes.length os tl) {k : Nat} (hk : k < g.nodes.length) : ∃ x, g.nodes[os.getD k 0]? = some x ∧ (permG g os tl).nodes[k]? = some (mvN tl x) := by
  have hi := (h.ot k hk).1
  refine ⟨g.nodes[os.getD k 0], List.getElem?_eq_getElem hi, ?_⟩
  show (os.map _)[k]? = _
  have hko : k < os.length := by rw [h.ol]; exact hk
  rw [List.getElem?_map, List.getElem?_eq_getElem hko]
  have e : os[k] = os.getD k 0 := by rw [List.getD_eq_getElem?_getD, List.getElem?_eq_getElem hko]; rfl
  simp only [Option.map_some]
  rw [e]
  show some (mvN tl (g.nodes.getD (os.getD k 0) dN)) = _
  rw [show g.nodes.getD (os.getD k 0) dN = g.nodes[os.getD k 0] from by rw [List.getD_eq_getElem?_getD, List.getElem?_eq_getElem hi]; rfl]
theorem perm_of (h : Prm g.nodes.length os tl) {i : Nat} {x : Nd} (hx : g.nodes[i]? = some x) : (permG g os tl).nodes[tl.getD i 0]? = some (mvN tl x) := by
  have hi := (List.getElem?_eq_some_iff.1 hx).1
  obtain ⟨h1, h2⟩ := h.ti i hi
  obtain ⟨y, h3, h4⟩ := perm_at h h1
  rw [h2, hx] at h3
  injection h3 with h3
  subst h3
  exact h4
theorem perm_mem (h : Prm g.nodes.length os tl) (y : Nd) : y ∈ (permG g os tl).nodes ↔ ∃ x ∈ g.nodes, y = mvN tl x := by
  constructor
  · intro hy
    obtain ⟨k, hk⟩ := List.mem_iff_getElem?.1 hy
    have hkl := (List.getElem?_eq_some_iff.1 hk).1
    rw [perm_len h] at hkl
    obtain ⟨x, h1, h2⟩ := perm_at h hkl
    rw [hk] at h2
    injection h2 with h2
    exact ⟨x, List.mem_of_getElem? h1, h2⟩
  · rintro ⟨x, hx, rfl⟩
    obtain ⟨i, hi⟩ := List.mem_iff_getElem?.1 hx
    exact List.mem_of_getElem? (perm_of h hi)
theorem mvR_in (h : Prm g.nodes.length os tl) {k : Int} (hk : 0 ≤ k ∧ k < (g.nodes.length : Int)) : 0 ≤ mvR tl k ∧ mvR tl k < (g.nodes.length : Int) := by
  have := (h.ti k.toNat (by omega)).1
  unfold mvR
  omega
theorem any_no {n : Nat} {l : List Int} (h : ∀ k ∈ l, 0 ≤ k ∧ k < (n : Int)) : l.any (badRef n) = false := by
  rw [List.any_eq_false]
  intro k hk
  have := h k hk
  unfold badRef
  simp only [Bool.or_eq_true, decide_eq_true_eq]
  omega
theorem perm_made (h : Prm g.nodes.length os tl) (hr : RefsOk g) {x : Nd} (hx : x ∈ g.nodes) : madeE (permG g os tl) (mvN tl x) = madeE g x := by
  have h1 := any_no (hr.1 x hx)
  have h2 : (mvN tl x).from_.any (badRef (permG g os tl).nodes.length) = false := by
    rw [perm_len h]
    refine any_no (fun k hk => ?_)
    show 0 ≤ k ∧ _
    have hk2 : k ∈ x.from_.map (mvR tl) := hk
    rw [List.mem_map] at hk2
    obtain ⟨k0, hk0, rfl⟩ := hk2
    exact mvR_in h (hr.1 x hx k0 hk0)
  have h3 : (mvN tl x).from_.length = x.from_.length := List.length_map ..
  unfold madeE
  rw [h1, h2, h3]
  rfl
theorem first_all (g : Gd) : ∀ (l : List Nd), firstE g l = 0 ↔ ∀ x ∈ l, madeE g x = 0
  | [] => by simp [firstE]
  | y :: l => by
    unfold firstE
    constructor
    · intro h
      exact first_ok g (y :: l) (by unfold firstE; exact h)
    · intro h
      rw [if_neg (by rw [h y (List.mem_cons_self ..)]; simp)]
      exact (first_all g l).2 (fun x hx => h x (List.mem_cons_of_mem _ hx))
theorem pre_iff (g : Gd) (ho : ∀ k ∈ g.outs, 0 ≤ k ∧ k < (g.nodes.length : Int)) : preE g = 0 ↔ ¬ (256 < g.nodes.length ∨ 256 < g.outs.length ∨ g.ins < 0 ∨ 16 < g.ins) ∧ ∀ x ∈ g.nodes, madeE g x = 0 := by
  have h1 := any_no ho
  constructor
  · intro h
    have h2 := pre_ok h
    exact ⟨by omega, h2.2.2.2.1⟩
  · rintro ⟨h2, h3⟩
    unfold preE
    have h4 := (first_all g g.nodes).2 h3
    rw [if_neg h2, if_neg (by rw [h4]; simp), if_neg (by rw [h1]; exact Bool.false_ne_true)]
theorem perm_outs (h : Prm g.nodes.length os tl) (hr : RefsOk g) : ∀ k ∈ (permG g os tl).outs, 0 ≤ k ∧ k < ((permG g os tl).nodes.length : Int) := by
  intro k hk
  have hk2 : k ∈ g.outs.map (mvR tl) := hk
  rw [List.mem_map] at hk2
  obtain ⟨k0, hk0, rfl⟩ := hk2
  rw [perm_len h]
  exact mvR_in h (hr.2 k0 hk0)
/-- Nothing is wrong with the one where nothing is with the other. -/
theorem perm_pre (h : Prm g.nodes.length os tl) (hr : RefsOk g) : preE (permG g os tl) = 0 ↔ preE g = 0 := by
  rw [pre_iff _ (perm_outs h hr), pre_iff g hr.2, perm_len h]
  have e : (permG g os tl).outs.length = g.outs.length := by show (g.outs.map _).length = _; rw [List.length_map]
  have e2 : (permG g os tl).ins = g.ins := rfl
  rw [e, e2]
  refine and_congr_right fun _ => ?_
  constructor
  · intro h1 x hx
    rw [← perm_made h hr hx]
    exact h1 _ ((perm_mem h _).2 ⟨x, hx, rfl⟩)
  · intro h1 y hy
    obtain ⟨x, hx, rfl⟩ := (perm_mem h y).1 hy
    rw [perm_made h hr hx]
    exact h1 x hx

/-! ### loops -/
theorem perm_edge (h : Prm g.nodes.length os tl) (hr : RefsOk g) {i k : Nat} (he : GOrd.Edge g i k) : GOrd.Edge (permG g os tl) (tl.getD i 0) (tl.getD k 0) ∧ k < g.nodes.length ∧ i < g.nodes.length := by
  unfold GOrd.Edge asks at he
  cases hx : g.nodes[i]? with
  | none => rw [hx] at he; cases he
  | some x =>
    rw [hx] at he
    dsimp only at he
    split at he
    · cases he
    · rename_i h6
      rw [List.mem_map] at he
      obtain ⟨k0, hk0, rfl⟩ := he
      have hkr := hr.1 x (List.mem_of_getElem? hx) k0 hk0
      refine ⟨?_, by omega, (List.getElem?_eq_some_iff.1 hx).1⟩
      unfold GOrd.Edge asks
      rw [perm_of h hx]
      dsimp only
      rw [if_neg (show ¬ (mvN tl x).kind = 6 from h6), List.mem_map]
      exact ⟨mvR tl k0, List.mem_map.2 ⟨k0, hk0, rfl⟩, by unfold mvR; rw [Int.toNat_natCast]⟩
theorem perm_edge_back (h : Prm g.nodes.length os tl) (hr : RefsOk g) {a b : Nat} (he : GOrd.Edge (permG g os tl) a b) : GOrd.Edge g (os.getD a 0) (os.getD b 0) := by
  unfold GOrd.Edge asks at he
  cases hx : (permG g os tl).nodes[a]? with
  | none => rw [hx] at he; cases he
  | some y =>
    have hal := (List.getElem?_eq_some_iff.1 hx).1
    rw [perm_len h] at hal
    obtain ⟨x, h1, h2⟩ := perm_at h hal
    rw [hx] at h2
    injection h2 with h2
    subst h2
    rw [hx] at he
    dsimp only at he
    split at he
    · cases he
    · rename_i h6
      rw [List.mem_map] at he
      obtain ⟨k1, hk1, rfl⟩ := he
      have hk2 : k1 ∈ x.from_.map (mvR tl) := hk1
      rw [List.mem_map] at hk2
      obtain ⟨k0, hk0, rfl⟩ := hk2
      have hkr := hr.1 x (List.mem_of_getElem? h1) k0 hk0
      unfold GOrd.Edge asks
      rw [h1]
      dsimp only
      rw [if_neg (show ¬ x.kind = 6 from h6), List.mem_map]
      refine ⟨k0, hk0, ?_⟩
      unfold mvR
      rw [Int.toNat_natCast, (h.ti k0.toNat (by omega)).2]
theorem perm_path (h : Prm g.nodes.length os tl) (hr : RefsOk g) {i k : Nat} (hp : GOrd.Path g i k) : GOrd.Path (permG g os tl) (tl.getD i 0) (tl.getD k 0) := by
  induction hp with
  | one he => exact GOrd.Path.one (perm_edge h hr he).1
  | more he _ ih => exact GOrd.Path.more (perm_edge h hr he).1 ih
theorem perm_path_back (h : Prm g.nodes.length os tl) (hr : RefsOk g) {i k : Nat} (hp : GOrd.Path (permG g os tl) i k) : GOrd.Path g (os.getD i 0) (os.getD k 0) := by
  induction hp with
  | one he => exact .one (perm_edge_back h hr he)
  | more he _ ih => exact .more (perm_edge_back h hr he) ih
theorem perm_acy (h : Prm g.nodes.length os tl) (hr : RefsOk g) : Acy (permG g os tl) ↔ Acy g :=
  by
  unfold GOrd.Acy
  exact ⟨fun ha i hp => ha _ (perm_path h hr hp), fun ha i hp => ha _ (perm_path_back h hr hp)⟩
end

theorem vis_small {g : Gd} {s s' : Sr} {a : Nat ⊕ List Nat} (h : Vis g s a true s') (h0 : ∀ j, s.st.getD j 0 = 0 ∨ s.st.getD j 0 = 2) : ∀ j, s'.st.getD j 0 = 0 ∨ s'.st.getD j 0 = 2 := by
  have hk := vis_keep h
  intro j
  rcases h0 j with e | e
  · exact hk.2.2.1 rfl j e
  · right
    rw [hk.2.1 j (by omega), e]
theorem vis_cycle {g : Gd} : ∀ (l : List Nat) {s s' : Sr}, Vis g s (.inr l) false s' → (∀ j, s.st.getD j 0 = 0 ∨ s.st.getD j 0 = 2) → ∃ j, GOrd.Path g j j
  | [], s, s', h, _ => by cases h
  | k :: l, s, s', h, h0 => by
    cases h with
    | cons h1 h2 => exact vis_cycle l h2 (vis_small h1 h0)
    | stop h1 =>
      refine vis_bad h1 (fun j => by rcases h0 j with e | e <;> omega) 0 ?_ rfl
      show ∀ j, s.st.getD j 0 = 1 → GOrd.Path g j k
      intro j hj
      rcases h0 j with e | e <;> omega
/-- The search goes well just where nothing goes round. -/
theorem vis_acy {g : Gd} {b : Bool} {s : Sr} (h : Vis g (s0 g.nodes.length) (.inr (List.range g.nodes.length)) b s) : b = true ↔ Acy g := by
  cases b with
  | true => exact ⟨fun _ => sorted_acy (vis_sorted h).1, fun _ => rfl⟩
  | false =>
    refine ⟨fun e => absurd e (by decide), fun ha => ?_⟩
    obtain ⟨j, hj⟩ := vis_cycle _ h (fun j => by
      left
      unfold s0
      dsimp only
      rw [List.getD_eq_getElem?_getD, List.getElem?_replicate]
      split <;> rfl)
    exact absurd hj (ha j)


/-! ### what is remembered stands where the nodes stand -/
section
variable {g : Gd} {os tl : List Nat}
def PmS (n : Nat) (os : List Nat) (sts sts' : List NS) : Prop := ∀ k, k < n → sts'[k]? = sts[os.getD k 0]?
theorem row_at {n : Nat} (h : Prm n os tl) (P : List (List Nat)) {i : Nat} (hi : i < n) : (os.map fun j => P.getD j []).getD (tl.getD i 0) [] = P.getD i [] := by
  obtain ⟨h1, h2⟩ := h.ti i hi
  have hko : tl.getD i 0 < os.length := by rw [h.ol]; exact h1
  rw [List.getD_eq_getElem?_getD, List.getElem?_map, List.getElem?_eq_getElem hko]
  have e : os[tl.getD i 0] = os.getD (tl.getD i 0) 0 := by
    generalize tl.getD i 0 = k at hko
    rw [List.getD_eq_getElem?_getD, List.getElem?_eq_getElem hko]; rfl
  show P.getD os[tl.getD i 0] [] = _
  rw [e, h2]
theorem heard_perm (h : Prm g.nodes.length os tl) (ins P : List (List Nat)) {x : Nd} (hr : ∀ k ∈ x.from_, 0 ≤ k ∧ k < (g.nodes.length : Int)) (s : NS) : heardN ins (os.map fun j => P.getD j []) (mvN tl x) s = heardN ins P x s := by
  unfold heardN
  have e : ((mvN tl x).from_.map fun k => (os.map fun j => P.getD j []).getD k.toNat []) = x.from_.map fun k => P.getD k.toNat [] := by
    show ((x.from_.map (mvR tl)).map _) = _
    rw [List.map_map]
    apply List.map_congr_left
    intro k hk
    have := hr k hk
    show (os.map fun j => P.getD j []).getD (mvR tl k).toNat [] = _
    unfold mvR
    rw [Int.toNat_natCast]
    exact row_at h P (by omega)
  rw [e]
theorem sol_perm (h : Prm g.nodes.length os tl) (hr : RefsOk g) {sts sts' : List NS} {ins P : List (List Nat)} {n : Nat} (hs : PmS g.nodes.length os sts sts') (hS : Sol g sts ins n P) : Sol (permG g os tl) sts' ins n (os.map fun j => P.getD j []) := by
  refine ⟨by rw [List.length_map, h.ol, perm_len h], fun k y s hy hk => ?_⟩
  have hkl := (List.getElem?_eq_some_iff.1 hy).1
  rw [perm_len h] at hkl
  obtain ⟨x, h1, h2⟩ := perm_at h hkl
  rw [hy] at h2
  injection h2 with h2
  subst h2
  rw [hs k hkl] at hk
  have h3 := hS.eq _ x s h1 hk
  rw [heard_perm h ins P (hr.1 x (List.mem_of_getElem? h1)) s]
  have hko : k < os.length := by rw [h.ol]; exact hkl
  rw [List.getElem?_map, List.getElem?_eq_getElem hko]
  have e : os[k] = os.getD k 0 := by rw [List.getD_eq_getElem?_getD, List.getElem?_eq_getElem hko]; rfl
  show some (P.getD os[k] []) = _
  rw [e, List.getD_eq_getElem?_getD, h3]
  rfl
theorem end_keep {P : List (List Nat)} {x : Nd} {s : NS} (h : isDel s = false) (hs : List (List Nat)) (n : Nat) : endN P x (keepN s hs n) = keepN s hs n := by
  cases s <;> first | rfl | cases h
theorem next_perm (h : Prm g.nodes.length os tl) (ins P : List (List Nat)) (n : Nat) {x : Nd} (hr : ∀ k ∈ x.from_, 0 ≤ k ∧ k < (g.nodes.length : Int)) {s : NS} (hf : Fits g x s) : nextN ins (os.map fun j => P.getD j []) n (mvN tl x) s = nextN ins P n x s := by
  unfold nextN
  rw [heard_perm h ins P hr s]
  cases hd : isDel s with
  | false => rw [end_keep hd, end_keep hd]
  | true =>
    obtain ⟨_, k, hk⟩ := hf.1 hd
    rw [(rowN_del hd _ n).2]
    have hkr := hr (k : Int) (by rw [hk]; exact List.mem_cons_self ..)
    have e1 : (mvN tl x).from_.getD 0 0 = mvR tl k := by
      show (x.from_.map (mvR tl)).getD 0 0 = _
      rw [hk]
      rfl
    have e2 : x.from_.getD 0 0 = (k : Int) := by rw [hk]; rfl
    have e3 : (os.map fun j => P.getD j []).getD (mvR tl k).toNat [] = P.getD (k : Int).toNat [] := by
      unfold mvR
      rw [Int.toNat_natCast]
      exact row_at h P (by omega)
    unfold endN
    rw [e1, e2, e3]
theorem piece_perm (h : Prm g.nodes.length os tl) (hr : RefsOk g) {order order' : List Nat} {c c' : Nat} {sts sts' : List NS} (ho : Ok g order c sts) (ho' : Ok (permG g os tl) order' c' sts') (hs : PmS g.nodes.length os sts sts') (ins : List (List Nat)) (n : Nat) :
    (pieceN (permG g os tl) order' sts' ins n).1 = (os.map fun j => (pieceN g order sts ins n).1.getD j []) ∧ PmS g.nodes.length os (pieceN g order sts ins n).2 (pieceN (permG g os tl) order' sts' ins n).2 := by
  obtain ⟨h1, h2⟩ := piece_sol ins n ho.ord ho.ok
  obtain ⟨h3, h4⟩ := piece_sol ins n ho'.ord ho'.ok
  have e := sol_unique ho'.ord ho'.ok h3 (sol_perm h hr hs h1)
  refine ⟨e, fun k hk => ?_⟩
  rw [h4, h2, e, List.getElem?_zipWith, List.getElem?_zipWith]
  obtain ⟨x, h5, h6⟩ := perm_at h hk
  rw [h6, h5, hs k hk]
  cases hst : sts[os.getD k 0]? with
  | none => rfl
  | some s =>
    dsimp only
    rw [next_perm h ins _ n (hr.1 x (List.mem_of_getElem? h5)) (ho.ok.fits _ x s h5 hst)]
theorem runS_perm (h : Prm g.nodes.length os tl) (hr : RefsOk g) {order order' : List Nat} {c c' : Nat} : ∀ (n : Nat) {sts sts' : List NS} (ins : List (List Nat)), Ok g order c sts → Ok (permG g os tl) order' c' sts' → PmS g.nodes.length os sts sts' →
    (runS (permG g os tl) order' n sts' ins).1 = os.map fun j => (runS g order n sts ins).1.getD j []
  | 0, sts, sts', ins, ho, ho', hs => by
    simp only [runS]
    rw [perm_len h, ← h.ol]
    have : (fun j => (List.replicate os.length ([] : List Nat)).getD j []) = fun _ => [] := by
      funext j
      rw [List.getD_eq_getElem?_getD, List.getElem?_replicate]
      split <;> rfl
    rw [this, List.map_const']
  | n + 1, sts, sts', ins, ho, ho', hs => by
    obtain ⟨h1, h2⟩ := piece_perm h hr ho ho' hs (ins.map (List.take 1)) 1
    have h3 := runS_perm h hr n (ins.map (List.drop 1)) (ho.next _ 1) (ho'.next _ 1) h2
    simp only [runS]
    rw [h1, h3, List.zipWith_map]
    rw [List.zipWith_self]
    apply List.map_congr_left
    intro j _
    rw [zip_getD _ _ j (by rw [ho.plen, (ho.next _ 1).rlen])]
theorem run_perm (h : Prm g.nodes.length os tl) (hr : RefsOk g) {order order' : List Nat} {c c' : Nat} (hc : 0 < c) (hc' : 0 < c') {sts sts' : List NS} (ho : Ok g order c sts) (ho' : Ok (permG g os tl) order' c' sts') (hs : PmS g.nodes.length os sts sts') (ins : List (List Nat)) (n : Int) :
    (runG (permG g os tl) order' c' sts' ins n).1 = (runG g order c sts ins n).1 := by
  have e : rightE (permG g os tl) ins n = rightE g ins n := rfl
  by_cases h0 : rightE g ins n = 0
  · have hn : 0 ≤ n := by
      unfold rightE at h0
      split at h0
      · cases h0
      · omega
    obtain ⟨m, rfl⟩ := Int.eq_ofNat_of_zero_le hn
    rw [runG_run hc ho h0, runG_run hc' ho' (by rw [e]; exact h0)]
    dsimp only
    congr 1
    show ((g.outs.map (mvR tl)).map _) = _
    rw [List.map_map, runS_perm h hr m ins ho ho' hs]
    apply List.map_congr_left
    intro k hk
    have := hr.2 k hk
    show (os.map _).getD (mvR tl k).toNat [] = _
    unfold mvR
    rw [Int.toNat_natCast]
    exact row_at h _ (by omega)
  · unfold runG
    rw [e, if_pos h0, if_pos h0]
theorem start_perm (h : Prm g.nodes.length os tl) : PmS g.nodes.length os (g.nodes.map GMod.start) ((permG g os tl).nodes.map GMod.start) := by
  intro k hk
  obtain ⟨x, h1, h2⟩ := perm_at h hk
  rw [List.getElem?_map, List.getElem?_map, h1, h2]
  rfl
/-- The law, in plain words. -/
theorem order_same (h : Prm g.nodes.length os tl) (hr : RefsOk g) (hp : preE g = 0) (hfl : ∀ x ∈ g.nodes, x.from_.length ≤ 1048576) {s s' : Sr} (hv : Vis g (s0 g.nodes.length) (.inr (List.range g.nodes.length)) true s)
    (hv' : Vis (permG g os tl) (s0 (permG g os tl).nodes.length) (.inr (List.range (permG g os tl).nodes.length)) true s') (p : Pc) (hrest : p.rest = false) :
    soundG (permG g os tl) s'.order (chunkK (permG g os tl).nodes) ((permG g os tl).nodes.map GMod.start) [p] = soundG g s.order (chunkK g.nodes) (g.nodes.map GMod.start) [p] := by
  obtain ⟨ho, hc⟩ := start_ok hp hfl hv
  obtain ⟨ho', hc'⟩ := start_ok ((perm_pre h hr).2 hp) (fun y hy => by
    obtain ⟨x, hx, rfl⟩ := (perm_mem h y).1 hy
    show (x.from_.map _).length ≤ _
    rw [List.length_map]
    exact hfl x hx) hv'
  simp only [soundG, hrest, Bool.false_eq_true, if_false]
  rw [run_perm h hr hc hc' ho ho' (start_perm h) p.ins p.n]
end
end Go.Proofs.Ytdliilmnfbgplaa.GOrderP
