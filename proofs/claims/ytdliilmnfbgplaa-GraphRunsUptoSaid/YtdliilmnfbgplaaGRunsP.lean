/- Piece by piece, and all at once from the last rest on: plain. -/
import Derived.Test.YtdliilmnfbgplaaGRFull
namespace Go.Proofs.Ytdliilmnfbgplaa.GRunsP
open Go Go.Proofs.Ytdliilmnfbgplaa.Fl Go.Proofs.Ytdliilmnfbgplaa.GMod Go.Proofs.Ytdliilmnfbgplaa.GOrd Go.Proofs.Ytdliilmnfbgplaa.GSol Go.Proofs.Ytdliilmnfbgplaa.GSplit Go.Proofs.Ytdliilmnfbgplaa.GSteps Go.Proofs.Ytdliilmnfbgplaa.GRestsP Go.Proofs.Ytdliilmnfbgplaa.GRAllP
set_option linter.unusedVariables false
set_option linter.unusedSimpArgs false

/-- Where the pieces stand: what is remembered is what all that came since the last rest makes. -/
structure RunI (g : Gd) (order : List Nat) (sts : List NS) (ins : List (List Nat)) (nn : Nat) : Prop where
  rest : sts.map restN = g.nodes.map GMod.start
  len : sts.length = g.nodes.length
  st : sts = (runS g order nn (g.nodes.map GMod.start) ins).2
  row : ∀ l ∈ ins, l.length = nn
  il : (ins.length : Int) = g.ins
theorem RunI.zero {g : Gd} {order : List Nat} {K : Nat} (hK : (K : Int) = g.ins) : RunI g order (g.nodes.map GMod.start) (List.replicate K []) 0 :=
  ⟨rest_starts _, by rw [List.length_map], rfl, fun l hl => by rw [(List.mem_replicate.1 hl).2]; rfl, by rw [List.length_replicate]; exact hK⟩

theorem drop_app {a b : List Nat} {n : Nat} (h : a.length = n) : (a ++ b).drop n = b := by rw [← h, List.drop_left]
def joinN (a b : List (List Nat)) : List (List Nat) := List.zipWith (· ++ ·) a b
theorem join_take {nn : Nat} : ∀ (a b : List (List Nat)), a.length = b.length → (∀ l ∈ a, l.length = nn) → (joinN a b).map (List.take nn) = a ∧ (joinN a b).map (List.drop nn) = b
  | [], [], _, _ => ⟨rfl, rfl⟩
  | [], _ :: _, h, _ => by simp at h
  | _ :: _, [], h, _ => by simp at h
  | x :: a, y :: b, h, hr => by
    have hx := hr x (List.mem_cons_self ..)
    obtain ⟨h1, h2⟩ := join_take a b (by simpa using h) (fun l hl => hr l (List.mem_cons_of_mem _ hl))
    constructor
    · show (x ++ y).take nn :: (joinN a b).map (List.take nn) = _
      rw [h1, ← hx, List.take_left]
    · show (x ++ y).drop nn :: (joinN a b).map (List.drop nn) = _
      rw [h2, ← hx, List.drop_left]
theorem join_rows {nn m : Nat} {a b : List (List Nat)} (ha : ∀ l ∈ a, l.length = nn) (hb : ∀ l ∈ b, l.length = m) : ∀ l ∈ joinN a b, l.length = nn + m := fun l hl => by
  obtain ⟨i, hi⟩ := List.mem_iff_getElem?.1 hl
  unfold joinN at hi
  rw [List.getElem?_zipWith] at hi
  cases h1 : a[i]? with
  | none => rw [h1] at hi; cases hi
  | some x =>
    cases h2 : b[i]? with
    | none => rw [h1, h2] at hi; cases hi
    | some y =>
      rw [h1, h2] at hi
      simp only [Option.some.injEq] at hi
      subst hi
      rw [List.length_append, ha x (List.mem_of_getElem? h1), hb y (List.mem_of_getElem? h2)]
theorem join_len {a b : List (List Nat)} (h : a.length = b.length) : (joinN a b).length = a.length := by unfold joinN; rw [List.length_zipWith, h, Nat.min_self]

theorem right_ok {g : Gd} {ins : List (List Nat)} {n : Int} (h : rightE g ins n = 0) : ∃ m : Nat, n = (m : Int) ∧ m ≤ 65536 ∧ (ins.length : Int) = g.ins ∧ ∀ l ∈ ins, l.length = m := by
  unfold rightE at h
  split at h
  · cases h
  split at h
  · cases h
  split at h
  · cases h
  rename_i h1 h2 h3
  obtain ⟨m, rfl⟩ : ∃ m : Nat, n = (m : Int) := Int.eq_ofNat_of_zero_le (by omega)
  refine ⟨m, rfl, by omega, Classical.byContradiction fun e => h2 e, fun l hl => ?_⟩
  have h4 : decide ((l.length : Int) ≠ (m : Int)) = false := by
    cases hb : decide ((l.length : Int) ≠ (m : Int)) with
    | false => rfl
    | true => exact absurd (List.any_eq_true.2 ⟨l, hl, hb⟩) h3
  have h5 := of_decide_eq_false h4
  have h6 : (l.length : Int) = (m : Int) := Classical.byContradiction fun e => h5 e
  omega

/-- All that was made since the last rest. -/
def allN (g : Gd) (order : List Nat) (n : Nat) (ins : List (List Nat)) : List (List Nat) := (runS g order n (g.nodes.map GMod.start) ins).1

theorem RunI.next {g : Gd} {order : List Nat} {chunk : Nat} (hc : 0 < chunk) (hok : Ok g order chunk (g.nodes.map GMod.start)) {sts : List NS} {ins pins : List (List Nat)} {nn m : Nat} (h : RunI g order sts ins nn) (hr : rightE g pins (m : Int) = 0) :
    RunI g order (runG g order chunk sts pins (m : Int)).2 (joinN ins pins) (nn + m) ∧ (runG g order chunk sts pins (m : Int)).1 = (g.outs.map fun k : Int => ((allN g order (nn + m) (joinN ins pins)).getD k.toNat []).drop nn, 0) := by
  obtain ⟨m', hm', _, hpl, hpr⟩ := right_ok hr
  obtain rfl : m = m' := by omega
  have hl : ins.length = pins.length := by have := h.il; omega
  obtain ⟨j1, j2⟩ := join_take (nn := nn) ins pins hl h.row
  have hS : Ok g order chunk sts := by rw [h.st]; exact Ok.run nn hok ins
  have hrun := runG_run hc hS hr
  have hadd := run_add nn m (joinN ins pins) hok
  rw [j1, j2, ← h.st] at hadd
  have hrg := rest_runG g order chunk sts pins (m : Int) h.len
  refine ⟨⟨hrg.1.trans h.rest, hrg.2, ?_, join_rows h.row hpr, by rw [join_len hl]; exact h.il⟩, ?_⟩
  · rw [hrun, hadd]
  · rw [hrun]
    dsimp only
    congr 1
    apply List.map_congr_left
    intro k _
    unfold allN
    rw [hadd]
    dsimp only
    have hrows := run_rows nn hok ins (fun l hl => by rw [h.row l hl]; exact Nat.le_refl _) h.il
    rw [zip_getD _ _ _ (by rw [Ok.rlen _ hok, Ok.rlen _ hS])]
    by_cases hk : k.toNat < g.nodes.length
    · have e := len_getD hrows (k := k.toNat) (by rw [Ok.rlen _ hok]; exact hk)
      exact (drop_app e).symm
    · have e1 : (runS g order m sts pins).1.getD k.toNat [] = [] := by rw [List.getD_eq_getElem?_getD, List.getElem?_eq_none (by rw [Ok.rlen _ hS]; omega)]; rfl
      have e2 : (runS g order nn (g.nodes.map GMod.start) ins).1.getD k.toNat [] = [] := by rw [List.getD_eq_getElem?_getD, List.getElem?_eq_none (by rw [Ok.rlen _ hok]; omega)]; rfl
      rw [e1, e2]
      simp
/-- .. and where it was refused. -/
theorem RunI.bad {g : Gd} {order : List Nat} {chunk : Nat} {sts : List NS} {ins pins : List (List Nat)} {nn : Nat} {n : Int} (h : RunI g order sts ins nn) (hr : rightE g pins n ≠ 0) : runG g order chunk sts pins n = (([], rightE g pins n), sts) := by
  unfold runG
  rw [if_pos hr]
theorem RunI.again {g : Gd} {order : List Nat} {sts : List NS} {ins : List (List Nat)} {nn K : Nat} (h : RunI g order sts ins nn) (hK : (K : Int) = g.ins) : RunI g order (sts.map restN) (List.replicate K []) 0 := by
  rw [h.rest]
  exact RunI.zero hK

/-- The rows of all are as the reference asks. -/
theorem all_fix {g : Gd} {order : List Nat} {c : Nat} (hok : Ok g order c (g.nodes.map GMod.start)) (hm : ∀ x ∈ g.nodes, madeE g x = 0) {ins : List (List Nat)} {n : Nat} (hi : ∀ l ∈ ins, l.length = n) (hil : (ins.length : Int) = g.ins) :
    (allN g order n ins).length = g.nodes.length ∧ (∀ l ∈ allN g order n ins, l.length = n) ∧ ∀ t, t < n → ∀ i x, g.nodes[i]? = some x → ((allN g order n ins).getD i []).getD t 0 = smpN (allN g order n ins) ins x i t :=
  ⟨Ok.rlen n hok ins, run_rows n hok ins (fun l hl => by rw [hi l hl]; exact Nat.le_refl _) hil, fun t ht => (run_fix hok hm hi hil t (by omega)).2 ht⟩
end Go.Proofs.Ytdliilmnfbgplaa.GRunsP
