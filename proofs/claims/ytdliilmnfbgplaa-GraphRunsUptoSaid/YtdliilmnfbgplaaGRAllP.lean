/- What the reference makes, sample by sample, is what a run makes: plain. -/
import Derived.Test.YtdliilmnfbgplaaGM8
import Derived.Test.YtdliilmnfbgplaaGM9
namespace Go.Proofs.Ytdliilmnfbgplaa.GRAllP
open Go Go.Proofs.Ytdliilmnfbgplaa.Fl Go.Proofs.Ytdliilmnfbgplaa.GMod Go.Proofs.Ytdliilmnfbgplaa.GOrd Go.Proofs.Ytdliilmnfbgplaa.GNode4 Go.Proofs.Ytdliilmnfbgplaa.GPState Go.Proofs.Ytdliilmnfbgplaa.GOuts Go.Proofs.Ytdliilmnfbgplaa.GRestsP Go.Proofs.Ytdliilmnfbgplaa.GSol Go.Proofs.Ytdliilmnfbgplaa.GSplit Go.Proofs.Ytdliilmnfbgplaa.GSteps Go.Proofs.Ytdliilmnfbgplaa.GNewF
set_option linter.unusedVariables false
set_option linter.unusedSimpArgs false

/-- A node's sample t; 0 ahead of the first one. -/
def atP (P : List (List Nat)) (i : Nat) (t : Int) : Nat := if t < 0 then 0 else (P.getD i []).getD t.toNat 0
def sumN : List Nat → Nat
  | [] => 0
  | a :: l => l.foldl fadd a
def fr (x : Nd) (j : Nat) : Nat := (x.from_.getD j 0).toNat
/-- What a node makes at time t of what was made. -/
def smpN (P ins : List (List Nat)) (x : Nd) (i t : Nat) : Nat :=
  if x.kind = 1 then (ins.getD x.n.toNat []).getD t 0
  else if x.kind = 2 then cn x.x
  else if x.kind = 3 then fmul (cn x.x) (atP P (fr x 0) t)
  else if x.kind = 4 then sumN (x.from_.map fun k => atP P k.toNat t)
  else if x.kind = 5 then fmul (atP P (fr x 0) t) (atP P (fr x 1) t)
  else if x.kind = 6 then atP P (fr x 0) ((t : Int) - x.n)
  else if x.kind = 8 then cn (GVMod.smp x.pt (GVMod.after x.pt t GVWalk.st0))
  else fsub (fsub (fadd (fadd (fmul x.co.b0 (atP P (fr x 0) t)) (fmul x.co.b1 (atP P (fr x 0) ((t : Int) - 1)))) (fmul x.co.b2 (atP P (fr x 0) ((t : Int) - 2)))) (fmul x.co.a1 (atP P i ((t : Int) - 1)))) (fmul x.co.a2 (atP P i ((t : Int) - 2)))
/-- What a node remembers ahead of sample t. -/
def stN (P : List (List Nat)) (x : Nd) (i t : Nat) : NS :=
  if x.kind = 6 then .del ((List.range x.n.toNat).map fun j : Nat => atP P (fr x 0) ((t : Int) - x.n + ((j : Int) - t) % x.n)) (t % x.n.toNat)
  else if x.kind = 7 then .fil x.co ⟨cn (atP P (fr x 0) ((t : Int) - 1)), cn (atP P (fr x 0) ((t : Int) - 2)), atP P i ((t : Int) - 1), atP P i ((t : Int) - 2)⟩
  else if x.kind = 8 then .sin x.pt (GVMod.after x.pt t GVWalk.st0)
  else GMod.start x

theorem atP_neg {P : List (List Nat)} {i : Nat} {t : Int} (h : t < 0) : atP P i t = 0 := if_pos h
theorem stN_zero (P : List (List Nat)) (x : Nd) (i : Nat) (h : madeE ⟨0, [], []⟩ x = 0 ∨ (x.kind = 6 → 1 ≤ x.n)) (hk : x.kind = 1 ∨ x.kind = 2 ∨ x.kind = 3 ∨ x.kind = 4 ∨ x.kind = 5 ∨ x.kind = 6 ∨ x.kind = 7 ∨ x.kind = 8) (h6 : x.kind = 6 → 1 ≤ x.n) : stN P x i 0 = GMod.start x := by
  unfold stN
  by_cases e6 : x.kind = 6
  · rw [if_pos e6]
    have hn := h6 e6
    have e : GMod.start x = .del (List.replicate x.n.toNat 0) 0 := by unfold GMod.start; simp [e6]
    rw [e]
    congr 1
    · apply List.ext_getElem?
      intro j
      rw [List.getElem?_map, List.getElem?_replicate]
      rcases Nat.lt_or_ge j x.n.toNat with hj | hj
      · rw [List.getElem?_range hj, if_pos hj]
        simp only [Option.map_some]
        congr 1
        apply atP_neg
        have h1 : (j : Int) < x.n := by omega
        have h2 : ((j : Int) - ((0 : Nat) : Int)) % x.n = (j : Int) := by
          rw [show ((j : Int) - ((0 : Nat) : Int)) = (j : Int) from by omega]
          exact Int.emod_eq_of_lt (by omega) h1
        rw [h2]
        omega
      · rw [if_neg (by omega), List.getElem?_eq_none (by rw [List.length_range]; exact hj)]
        rfl
  by_cases e7 : x.kind = 7
  · rw [if_neg e6, if_pos e7]
    have e : GMod.start x = .fil x.co GFNew.rest0 := by unfold GMod.start; simp [e7]
    rw [e, atP_neg (by omega), atP_neg (by omega), atP_neg (by omega), atP_neg (by omega)]
    have : cn 0 = 0 := by decide +kernel
    rw [this]
    rfl
  by_cases e8 : x.kind = 8
  · rw [if_neg e6, if_neg e7, if_pos e8]
    have e : GMod.start x = .sin x.pt GVWalk.st0 := by unfold GMod.start; simp [e8]
    rw [e]
    rfl
  rw [if_neg e6, if_neg e7, if_neg e8]

/-- Rows of t samples. -/
theorem run_rows {g : Gd} {order : List Nat} {c : Nat} : ∀ (t : Nat) {sts : List NS} (h : Ok g order c sts) (ins : List (List Nat)), (∀ l ∈ ins, t ≤ l.length) → (ins.length : Int) = g.ins → ∀ l ∈ (runS g order t sts ins).1, l.length = t
  | 0, sts, h, ins, hi, hil => fun l hl => by
    simp only [runS, List.mem_replicate] at hl
    rw [hl.2]
    rfl
  | t + 1, sts, h, ins, hi, hil => fun l hl => by
    have h1 : ∀ l ∈ (pieceN g order sts (ins.map (List.take 1)) 1).1, l.length = 1 := sol_len h.ord h.ok (piece_sol _ 1 h.ord h.ok).1 (fun l hl => by
      rw [List.mem_map] at hl
      obtain ⟨l0, hl0, rfl⟩ := hl
      have := hi l0 hl0
      rw [List.length_take]
      omega) (by rw [List.length_map]; exact hil)
    have h2 := run_rows t (sts := (pieceN g order sts (ins.map (List.take 1)) 1).2) (h.next _ _) (ins.map (List.drop 1)) (fun l hl => by
      rw [List.mem_map] at hl
      obtain ⟨l0, hl0, rfl⟩ := hl
      have := hi l0 hl0
      rw [List.length_drop]
      omega) (by rw [List.length_map]; exact hil)
    simp only [runS] at hl
    obtain ⟨i, hi2⟩ := List.mem_iff_getElem?.1 hl
    rw [List.getElem?_zipWith] at hi2
    cases ha : (pieceN g order sts (ins.map (List.take 1)) 1).1[i]? with
    | none => rw [ha] at hi2; cases hi2
    | some a =>
      cases hb : (runS g order t (pieceN g order sts (ins.map (List.take 1)) 1).2 (ins.map (List.drop 1))).1[i]? with
      | none => rw [ha, hb] at hi2; cases hi2
      | some b =>
        rw [ha, hb] at hi2
        simp only [Option.some.injEq] at hi2
        subst hi2
        rw [List.length_append, h1 a (List.mem_of_getElem? ha), h2 b (List.mem_of_getElem? hb)]
        omega

theorem len_getD {ls : List (List Nat)} {n k : Nat} (h : ∀ l ∈ ls, l.length = n) (hk : k < ls.length) : (ls.getD k []).length = n := by
  rw [List.getD_eq_getElem?_getD, List.getElem?_eq_getElem hk]
  exact h _ (List.getElem_mem _)
theorem map_take_take (ins : List (List Nat)) (a b : Nat) : (ins.map (List.take b)).map (List.take a) = ins.map (List.take (min a b)) := by
  rw [List.map_map]
  apply List.map_congr_left
  intro l _
  simp only [Function.comp, List.take_take]

/-- One sample on: what was made, what is made. -/
theorem run_step {g : Gd} {order : List Nat} {c : Nat} {sts : List NS} (h : Ok g order c sts) {ins : List (List Nat)} {n t : Nat} (hi : ∀ l ∈ ins, l.length = n) (hil : (ins.length : Int) = g.ins) (ht : t < n) :
    ∃ (I R : List (List Nat)) (S : List NS), S = (runS g order t sts (ins.map (List.take t))).2 ∧ I = (ins.map (List.drop t)).map (List.take 1) ∧ R = (pieceN g order S I 1).1 ∧ Ok g order c S ∧ (runS g order (t + 1) sts (ins.map (List.take (t + 1)))).2 = (pieceN g order S I 1).2 ∧
      R.length = g.nodes.length ∧ (∀ l ∈ R, l.length = 1) ∧ (∀ l ∈ I, l.length = 1) ∧ I.length = ins.length ∧ ∀ k, k < g.nodes.length → R.getD k [] = [((runS g order n sts ins).1.getD k []).getD t 0] := by
  refine ⟨_, _, _, rfl, rfl, rfl, Ok.run t h _, ?_, ?_, ?_, ?_, ?_, ?_⟩
  · have := run_add t 1 (ins.map (List.take (t + 1))) h
    rw [this, map_take_take, Nat.min_eq_left (by omega)]
    have e : (ins.map (List.take (t + 1))).map (List.drop t) = (ins.map (List.drop t)).map (List.take 1) := by
      rw [List.map_map, List.map_map]
      apply List.map_congr_left
      intro l _
      simp only [Function.comp]
      rw [List.drop_take]
      congr 1
      omega
    rw [e]
    simp only [runS]
    rw [map_take_take]
    rfl
  · exact (Ok.run t h _).plen _ _
  · exact sol_len (Ok.run t h (ins.map (List.take t))).ord (Ok.run t h (ins.map (List.take t))).ok (piece_sol _ 1 (Ok.run t h (ins.map (List.take t))).ord (Ok.run t h (ins.map (List.take t))).ok).1 (fun l hl => by
      rw [List.map_map, List.mem_map] at hl
      obtain ⟨l0, hl0, rfl⟩ := hl
      have := hi l0 hl0
      simp only [Function.comp, List.length_take, List.length_drop]
      omega) (by rw [List.length_map, List.length_map]; exact hil)
  · intro l hl
    rw [List.map_map, List.mem_map] at hl
    obtain ⟨l0, hl0, rfl⟩ := hl
    have := hi l0 hl0
    simp only [Function.comp, List.length_take, List.length_drop]
    omega
  · rw [List.length_map, List.length_map]
  · intro k hk
    obtain ⟨m, hm⟩ : ∃ m, n - t = m + 1 := ⟨n - t - 1, by omega⟩
    have hS := Ok.run t h (ins.map (List.take t))
    have h1 := run_add t (m + 1) ins h
    rw [show t + (m + 1) = n from by omega] at h1
    have hr1 := run_rows t h (ins.map (List.take t)) (fun l hl => by
      rw [List.mem_map] at hl
      obtain ⟨l0, hl0, rfl⟩ := hl
      have := hi l0 hl0
      rw [List.length_take]
      omega) (by rw [List.length_map]; exact hil)
    have hr2 : ∀ l ∈ (pieceN g order (runS g order t sts (ins.map (List.take t))).2 ((ins.map (List.drop t)).map (List.take 1)) 1).1, l.length = 1 := sol_len hS.ord hS.ok (piece_sol _ 1 hS.ord hS.ok).1 (fun l hl => by
      rw [List.map_map, List.mem_map] at hl
      obtain ⟨l0, hl0, rfl⟩ := hl
      have := hi l0 hl0
      simp only [Function.comp, List.length_take, List.length_drop]
      omega) (by rw [List.length_map, List.length_map]; exact hil)
    rw [h1]
    dsimp only
    rw [zip_getD _ _ k (by rw [Ok.rlen _ h, Ok.rlen _ hS])]
    simp only [runS]
    rw [zip_getD _ _ k (by rw [hS.plen, Ok.rlen _ (hS.next _ _)])]
    have e1 := len_getD hr1 (k := k) (by rw [Ok.rlen _ h]; exact hk)
    have e2 := len_getD hr2 (k := k) (by rw [hS.plen]; exact hk)
    obtain ⟨y, hy⟩ : ∃ y, (pieceN g order (runS g order t sts (ins.map (List.take t))).2 ((ins.map (List.drop t)).map (List.take 1)) 1).1.getD k [] = [y] := by
      match hl : (pieceN g order (runS g order t sts (ins.map (List.take t))).2 ((ins.map (List.drop t)).map (List.take 1)) 1).1.getD k [], e2 with
      | [y], _ => exact ⟨y, rfl⟩
    rw [hy]
    congr 1
    rw [List.getD_eq_getElem?_getD, List.getElem?_append_right (by omega), e1, Nat.sub_self]
    rfl

theorem mix_one : ∀ (l : List Nat) (a : Nat), (l.map fun y => [y]).foldl (List.zipWith fadd) [a] = [l.foldl fadd a]
  | [], a => rfl
  | b :: l, a => by
    simp only [List.map_cons, List.foldl_cons, List.zipWith_cons_cons, List.zipWith_nil_left]
    exact mix_one l _
theorem fr_mem {x : Nd} {j : Nat} (h : j < x.from_.length) : x.from_.getD j 0 ∈ x.from_ := by
  rw [List.getD_eq_getElem?_getD, List.getElem?_eq_getElem h]
  exact List.getElem_mem _
theorem map_getD {α β : Type} (f : α → β) (l : List α) (j : Nat) (a : α) (b : β) (h : j < l.length) : (l.map f).getD j b = f (l.getD j a) := by
  rw [List.getD_eq_getElem?_getD, List.getElem?_map, List.getD_eq_getElem?_getD, List.getElem?_eq_getElem h]
  rfl

/-- A ring, one sample on. -/
theorem ring_next {N t : Nat} (hN : 0 < N) (f f' : Int → Nat) (hf : ∀ u, u < (t : Int) → f' u = f u) (y : Nat) (hy : f' (t : Int) = y) :
    ((List.range N).map fun j : Nat => f ((t : Int) - N + ((j : Int) - t) % N)).set (t % N) y = (List.range N).map fun j : Nat => f' (((t + 1 : Nat) : Int) - N + ((j : Int) - ((t + 1 : Nat) : Int)) % N) := by
  have hNi : (0 : Int) < (N : Int) := by omega
  apply List.ext_getElem?
  intro j
  rw [List.getElem?_set, List.length_map, List.length_range, List.getElem?_map, List.getElem?_map]
  have htm : t % N < N := Nat.mod_lt _ hN
  rcases Nat.lt_or_ge j N with hj | hj
  · rw [List.getElem?_range hj]
    simp only [Option.map_some]
    have hti : ((t % N : Nat) : Int) = (t : Int) % N := by omega
    by_cases e : t % N = j
    · subst e
      rw [if_pos rfl, if_pos htm]
      congr 1
      have h1 : (((t % N : Nat) : Int) - ((t + 1 : Nat) : Int)) % N = (N : Int) - 1 := by
        rw [hti, show ((t : Int) % N - ((t + 1 : Nat) : Int)) = (-1 : Int) - (t : Int) / N * N from by
          have := Int.emod_add_mul_ediv (t : Int) N
          have e2 : (t : Int) / N * N = N * ((t : Int) / N) := Int.mul_comm _ _
          omega, Int.sub_mul_emod_self_right]
        rw [← Int.add_mul_emod_self_left (-1) (N : Int) 1, Int.mul_one]
        exact Int.emod_eq_of_lt (by omega) (by omega)
      rw [h1, show ((t + 1 : Nat) : Int) - N + ((N : Int) - 1) = (t : Int) from by omega, hy]
    · rw [if_neg e]
      congr 1
      obtain ⟨r, hr⟩ : ∃ r, ((j : Int) - t) % N = r := ⟨_, rfl⟩
      have hr0 : 0 ≤ r := by rw [← hr]; exact Int.emod_nonneg _ (by omega)
      have hr1 : r < N := by rw [← hr]; exact Int.emod_lt_of_pos _ hNi
      have hne : r ≠ 0 := fun e2 => by
        rw [e2] at hr
        have h3 : (j : Int) % N = (t : Int) % N := Int.emod_eq_emod_iff_emod_sub_eq_zero.2 hr
        rw [Int.emod_eq_of_lt (by omega) (by omega : (j : Int) < N), ← hti] at h3
        exact e (by omega)
      have h1 : ((j : Int) - ((t + 1 : Nat) : Int)) % N = r - 1 := by
        rw [show ((j : Int) - ((t + 1 : Nat) : Int)) = ((j : Int) - t) - 1 from by omega, ← Int.emod_sub_emod, hr]
        exact Int.emod_eq_of_lt (by omega) (by omega)
      rw [h1, hr, show ((t + 1 : Nat) : Int) - N + (r - 1) = (t : Int) - N + r from by omega, hf _ (by omega)]
  · have hne : t % N ≠ j := by omega
    rw [if_neg hne, List.getElem?_eq_none (by rw [List.length_range]; exact hj)]
    rfl
theorem ring_tell {N t : Nat} (hN : 0 < N) (f : Int → Nat) : ((List.range N).map fun j : Nat => f ((t : Int) - N + ((j : Int) - t) % N)).getD ((t % N + 0) % N) 0 = f ((t : Int) - N) := by
  have hNi : (0 : Int) < (N : Int) := by omega
  have htm : t % N < N := Nat.mod_lt _ hN
  rw [Nat.add_zero, Nat.mod_mod, List.getD_eq_getElem?_getD, List.getElem?_map, List.getElem?_range htm]
  simp only [Option.map_some, Option.getD_some]
  congr 1
  have hti : ((t % N : Nat) : Int) = (t : Int) % N := by omega
  have h1 : (((t % N : Nat) : Int) - (t : Int)) % N = 0 := by
    rw [hti, Int.emod_sub_emod, Int.sub_self]
    exact Int.zero_emod _
  rw [h1]
  omega

theorem start_of {x : Nd} : (x.kind = 1 → GMod.start x = .ent x.n.toNat) ∧ (x.kind = 2 → GMod.start x = .con (cn x.x)) ∧ (x.kind = 3 → GMod.start x = .gai (cn x.x)) ∧ (x.kind = 4 → GMod.start x = .mix) ∧ (x.kind = 5 → GMod.start x = .tim) := by
  refine ⟨fun h => ?_, fun h => ?_, fun h => ?_, fun h => ?_, fun h => ?_⟩ <;> (unfold GMod.start; simp [h])

/-- One node, one sample on. -/
theorem node_step {g : Gd} {x : Nd} (he : madeE g x = 0) {P R I ins : List (List Nat)} {i t : Nat} (hR : ∀ k, k < g.nodes.length → R.getD k [] = [(P.getD k []).getD t 0]) (hI : ∀ k, k < ins.length → I.getD k [] = [(ins.getD k []).getD t 0]) (hil : (ins.length : Int) = g.ins) (hi : i < g.nodes.length) :
    rowN (stN P x i t) (heardN I R x (stN P x i t)) 1 = [smpN P ins x i t] ∧ ((P.getD i []).getD t 0 = smpN P ins x i t → nextN I R 1 x (stN P x i t) = stN P x i (t + 1)) := by
  obtain ⟨h1, h2, h3, h4, h5, h6, h7⟩ := made_ok he
  have hlen : ∀ m : Nat, manyZ x.kind = (m : Int) → x.from_.length = m := fun m e => by rw [e] at h2; omega
  have hat : ∀ k, atP P k (t : Int) = (P.getD k []).getD t 0 := fun k => by
    unfold atP
    rw [if_neg (by omega), Int.toNat_natCast]
  have hfr : ∀ j, j < x.from_.length → fr x j < g.nodes.length := fun j hj => by
    have := h3 _ (fr_mem hj)
    unfold fr
    omega
  have hhd : ∀ j, j < x.from_.length → (x.from_.map fun k => R.getD k.toNat []).getD j [] = [atP P (fr x j) t] := fun j hj => by
    rw [map_getD _ _ j 0 [] hj, hat]
    exact hR _ (hfr j hj)
  obtain ⟨s1, s2, s3, s4, s5⟩ := start_of (x := x)
  have hin : nextN I R 1 x (stN P x i t) = endN R x (keepN (stN P x i t) (heardN I R x (stN P x i t)) 1) := rfl
  have p1 : ((t + 1 : Nat) : Int) - 1 = (t : Int) := by omega
  have p2 : ((t + 1 : Nat) : Int) - 2 = (t : Int) - 1 := by omega
  rcases GMade.many_cases x.kind with hk | hk | hk | hk | hk | hk | hk | hk | hk
  · have hn := h4 hk
    have e : ∀ u, stN P x i u = .ent x.n.toNat := fun u => by unfold stN; rw [if_neg (by omega), if_neg (by omega), if_neg (by omega), s1 hk]
    rw [hin, e t, e (t + 1)]
    have eq : rowN (.ent x.n.toNat) (heardN I R x (.ent x.n.toNat)) 1 = I.getD x.n.toNat [] := rfl
    refine ⟨?_, fun _ => rfl⟩
    rw [eq, hI _ (by omega)]
    unfold smpN
    rw [if_pos hk]
  · have e : ∀ u, stN P x i u = .con (cn x.x) := fun u => by unfold stN; rw [if_neg (by omega), if_neg (by omega), if_neg (by omega), s2 hk]
    rw [hin, e t, e (t + 1)]
    refine ⟨?_, fun _ => rfl⟩
    unfold smpN
    rw [if_neg (by omega), if_pos hk]
    rfl
  · have hl := hlen 1 (by rw [hk]; rfl)
    have e : ∀ u, stN P x i u = .gai (cn x.x) := fun u => by unfold stN; rw [if_neg (by omega), if_neg (by omega), if_neg (by omega), s3 hk]
    rw [hin, e t, e (t + 1)]
    refine ⟨?_, fun _ => rfl⟩
    have eq : rowN (.gai (cn x.x)) (heardN I R x (.gai (cn x.x))) 1 = ((x.from_.map fun k => R.getD k.toNat []).getD 0 []).map (fmul (cn x.x)) := rfl
    rw [eq, hhd 0 (by omega)]
    unfold smpN
    rw [if_neg (by omega), if_neg (by omega), if_pos hk]
    rfl
  · have e : ∀ u, stN P x i u = .mix := fun u => by unfold stN; rw [if_neg (by omega), if_neg (by omega), if_neg (by omega), s4 hk]
    rw [hin, e t, e (t + 1)]
    refine ⟨?_, fun _ => rfl⟩
    have eq : rowN .mix (heardN I R x .mix) 1 = mixN 1 (x.from_.map fun k => R.getD k.toNat []) := rfl
    rw [eq]
    have e2 : (x.from_.map fun k => R.getD k.toNat []) = (x.from_.map fun k => atP P k.toNat t).map fun y => [y] := by
      rw [List.map_map]
      apply List.map_congr_left
      intro k hkm
      have := h3 k hkm
      simp only [Function.comp]
      rw [hR _ (by omega), hat]
    rw [e2]
    unfold smpN
    rw [if_neg (by omega), if_neg (by omega), if_neg (by omega), if_pos hk]
    cases x.from_.map fun k => atP P k.toNat t with
    | nil => rfl
    | cons a l =>
      show ((l.map fun y => [y]).foldl (List.zipWith fadd) [a]) = _
      rw [mix_one]
      rfl
  · have hl := hlen 2 (by rw [hk]; rfl)
    have e : ∀ u, stN P x i u = .tim := fun u => by unfold stN; rw [if_neg (by omega), if_neg (by omega), if_neg (by omega), s5 hk]
    rw [hin, e t, e (t + 1)]
    refine ⟨?_, fun _ => rfl⟩
    have eq : rowN .tim (heardN I R x .tim) 1 = List.zipWith fmul ((x.from_.map fun k => R.getD k.toNat []).getD 0 []) ((x.from_.map fun k => R.getD k.toNat []).getD 1 []) := rfl
    rw [eq, hhd 0 (by omega), hhd 1 (by omega)]
    unfold smpN
    rw [if_neg (by omega), if_neg (by omega), if_neg (by omega), if_neg (by omega), if_pos hk]
    rfl
  · have hl := hlen 1 (by rw [hk]; rfl)
    have hn := h5 hk
    obtain ⟨N, hN⟩ : ∃ N : Nat, x.n = (N : Int) := Int.eq_ofNat_of_zero_le (by omega)
    have hN0 : 0 < N := by omega
    have e : ∀ u, stN P x i u = .del ((List.range N).map fun j : Nat => atP P (fr x 0) ((u : Int) - N + ((j : Int) - u) % N)) (u % N) := fun u => by
      unfold stN
      rw [if_pos hk, hN, Int.toNat_natCast]
    rw [hin, e t, e (t + 1)]
    constructor
    · have eq : ∀ (r : List Nat) (a : Nat) hs, rowN (.del r a) hs 1 = [r.getD ((a + 0) % r.length) 0] := fun _ _ _ => rfl
      rw [eq, List.length_map, List.length_range, ring_tell hN0 (fun u => atP P (fr x 0) u)]
      unfold smpN
      rw [if_neg (by omega), if_neg (by omega), if_neg (by omega), if_neg (by omega), if_neg (by omega), if_pos hk, hN]
    · intro _
      have eq : ∀ (r : List Nat) (a : Nat) hs, endN R x (keepN (.del r a) hs 1) = .del (hearN r a (R.getD (fr x 0) [])).1 (hearN r a (R.getD (fr x 0) [])).2 := fun _ _ _ => rfl
      rw [eq, hR _ (hfr 0 (by omega))]
      have eq2 : ∀ (r : List Nat) (a y : Nat), hearN r a [y] = (r.set a y, (a + 1) % r.length) := fun _ _ _ => rfl
      rw [eq2]
      dsimp only
      rw [List.length_map, List.length_range, ring_next hN0 (fun u => atP P (fr x 0) u) (fun u => atP P (fr x 0) u) (fun _ _ => rfl) _ (hat _)]
      congr 1
      rw [Nat.mod_add_mod]
  · have hl := hlen 1 (by rw [hk]; rfl)
    have e : ∀ u, stN P x i u = .fil x.co ⟨cn (atP P (fr x 0) ((u : Int) - 1)), cn (atP P (fr x 0) ((u : Int) - 2)), atP P i ((u : Int) - 1), atP P i ((u : Int) - 2)⟩ := fun u => by
      unfold stN
      rw [if_neg (by omega), if_pos hk]
    rw [hin, e t, e (t + 1)]
    have eo : ∀ st y, GFRun.out x.co st y = fsub (fsub (fadd (fadd (fmul x.co.b0 y) (fmul x.co.b1 st.x1)) (fmul x.co.b2 st.x2)) (fmul x.co.a1 st.y1)) (fmul x.co.a2 st.y2) := fun _ _ => rfl
    have hs : GFRun.out x.co ⟨cn (atP P (fr x 0) ((t : Int) - 1)), cn (atP P (fr x 0) ((t : Int) - 2)), atP P i ((t : Int) - 1), atP P i ((t : Int) - 2)⟩ (atP P (fr x 0) t) = smpN P ins x i t := by
      unfold smpN
      rw [if_neg (by omega), if_neg (by omega), if_neg (by omega), if_neg (by omega), if_neg (by omega), if_neg (by omega), if_neg (by omega), eo]
      dsimp only
      rw [fmul_eq (x := x.co.b1) (x' := x.co.b1) rfl (cn_cn (atP P (fr x 0) ((t : Int) - 1))), fmul_eq (x := x.co.b2) (x' := x.co.b2) rfl (cn_cn (atP P (fr x 0) ((t : Int) - 2)))]
    constructor
    · have eq : ∀ (c : GMod.Co) st, rowN (.fil c st) (heardN I R x (.fil c st)) 1 = GFRun.outs c st ((x.from_.map fun k => R.getD k.toNat []).getD 0 []) := fun _ _ => rfl
      rw [eq, hhd 0 (by omega)]
      show [GFRun.out _ _ _] = _
      rw [hs]
    · intro hy
      have eq : ∀ (c : GMod.Co) st, endN R x (keepN (.fil c st) (heardN I R x (.fil c st)) 1) = .fil c (GFRun.fin c st ((x.from_.map fun k => R.getD k.toNat []).getD 0 [])) := fun _ _ => rfl
      rw [eq, hhd 0 (by omega)]
      show NS.fil x.co (GFRun.nxt x.co _ _) = _
      unfold GFRun.nxt
      rw [hs, ← hy, ← hat i, p1, p2]
  · have e : ∀ u, stN P x i u = .sin x.pt (GVMod.after x.pt u GVWalk.st0) := fun u => by
      unfold stN
      rw [if_neg (by omega), if_neg (by omega), if_pos hk]
    rw [hin, e t, e (t + 1)]
    constructor
    · unfold smpN
      rw [if_neg (by omega), if_neg (by omega), if_neg (by omega), if_neg (by omega), if_neg (by omega), if_neg (by omega), if_pos hk]
      rfl
    · intro _
      show NS.sin x.pt (GVMod.next x.pt _) = _
      rw [GVMod.after_succ]
  · exact absurd hk.1 h1

theorem kinds {g : Gd} {x : Nd} (he : madeE g x = 0) : x.kind = 1 ∨ x.kind = 2 ∨ x.kind = 3 ∨ x.kind = 4 ∨ x.kind = 5 ∨ x.kind = 6 ∨ x.kind = 7 ∨ x.kind = 8 := by
  have h1 := (made_ok he).1
  rcases GMade.many_cases x.kind with hk | hk | hk | hk | hk | hk | hk | hk | hk
  iterate 8 (first | exact (by simp [hk]) | skip)
  exact absurd hk.1 h1

/-- A run makes what is asked for, sample by sample. -/
theorem run_fix {g : Gd} {order : List Nat} {c : Nat} (h : Ok g order c (g.nodes.map GMod.start)) (hm : ∀ x ∈ g.nodes, madeE g x = 0) {ins : List (List Nat)} {n : Nat} (hi : ∀ l ∈ ins, l.length = n) (hil : (ins.length : Int) = g.ins) :
    ∀ t, t ≤ n → (∀ i x, g.nodes[i]? = some x → (runS g order t (g.nodes.map GMod.start) (ins.map (List.take t))).2[i]? = some (stN (runS g order n (g.nodes.map GMod.start) ins).1 x i t)) ∧
      (t < n → ∀ i x, g.nodes[i]? = some x → ((runS g order n (g.nodes.map GMod.start) ins).1.getD i []).getD t 0 = smpN (runS g order n (g.nodes.map GMod.start) ins).1 ins x i t) := by
  obtain ⟨P, hP⟩ : ∃ P, (runS g order n (g.nodes.map GMod.start) ins).1 = P := ⟨_, rfl⟩
  -- the sample, where what is remembered is known
  have sample : ∀ t, t < n → (∀ i x, g.nodes[i]? = some x → (runS g order t (g.nodes.map GMod.start) (ins.map (List.take t))).2[i]? = some (stN P x i t)) →
      (∀ i x, g.nodes[i]? = some x → (P.getD i []).getD t 0 = smpN P ins x i t) ∧ (∀ i x, g.nodes[i]? = some x → (runS g order (t + 1) (g.nodes.map GMod.start) (ins.map (List.take (t + 1)))).2[i]? = some (stN P x i (t + 1))) := by
    intro t ht hst
    obtain ⟨I, R, S, hS, hI, hR, hok, hnx, hRl, hR1, hI1, hIl, hRP⟩ := run_step h hi hil ht
    rw [hP] at hRP
    rw [← hS] at hst
    have hsol := piece_sol I 1 hok.ord hok.ok
    rw [← hR] at hsol
    have hII : ∀ k, k < ins.length → I.getD k [] = [(ins.getD k []).getD t 0] := fun k hk => by
      have hkl : t < (ins[k]).length := by rw [hi _ (List.getElem_mem _)]; exact ht
      rw [hI, map_getD _ _ k [] [] (by rw [List.length_map]; exact hk), map_getD _ _ k [] [] hk, List.getD_eq_getElem?_getD (l := ins), List.getElem?_eq_getElem hk]
      simp only [Option.getD_some]
      rw [List.drop_eq_getElem_cons hkl, List.getD_eq_getElem?_getD, List.getElem?_eq_getElem hkl]
      rfl
    have key : ∀ i x, g.nodes[i]? = some x → (P.getD i []).getD t 0 = smpN P ins x i t := fun i x hx => by
      have hiN := (List.getElem?_eq_some_iff.1 hx).1
      have h1 := hsol.1.eq i x _ hx (hst i x hx)
      have h2 := (node_step (P := P) (R := R) (I := I) (ins := ins) (i := i) (t := t) (hm x (List.mem_of_getElem? hx)) hRP hII hil hiN).1
      rw [h2] at h1
      have h3 := hRP i hiN
      rw [List.getD_eq_getElem?_getD (l := R), h1] at h3
      injection h3 with h3
      exact h3.symm
    refine ⟨key, fun i x hx => ?_⟩
    have hiN := (List.getElem?_eq_some_iff.1 hx).1
    rw [hnx, hsol.2, List.getElem?_zipWith, hx, hst i x hx]
    dsimp only
    rw [(node_step (P := P) (R := R) (I := I) (ins := ins) (i := i) (t := t) (hm x (List.mem_of_getElem? hx)) hRP hII hil hiN).2 (key i x hx)]
  rw [hP]
  have all : ∀ t, t ≤ n → ∀ i x, g.nodes[i]? = some x → (runS g order t (g.nodes.map GMod.start) (ins.map (List.take t))).2[i]? = some (stN P x i t) := by
    intro t
    induction t with
    | zero =>
      intro _ i x hx
      have he := hm x (List.mem_of_getElem? hx)
      show (g.nodes.map GMod.start)[i]? = _
      rw [List.getElem?_map, hx, stN_zero P x i (.inr (fun e => ((made_ok he).2.2.2.2.1 e).1)) (kinds he) (fun e => ((made_ok he).2.2.2.2.1 e).1)]
      rfl
    | succ t ih =>
      intro ht
      exact (sample t (by omega) (ih (by omega))).2
  exact fun t ht => ⟨all t ht, fun htn => (sample t htn (all t ht)).1⟩
end Go.Proofs.Ytdliilmnfbgplaa.GRAllP
