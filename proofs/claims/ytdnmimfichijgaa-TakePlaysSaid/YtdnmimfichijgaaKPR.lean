/- The reference's play in memory: the words, the edits that were done, what came of the steps. -/
import Derived.Test.YtdnmimfichijgaaKLies
import Derived.Test.YtdnmimfichijgaaKAlive
namespace Go.Proofs.Ytdnmimfichijgaa.KPR
open Go Go.RowKit Go.Proofs.Ytdnmimfichijgaa.KMod Go.Proofs.Ytdnmimfichijgaa.KTk Go.Proofs.Ytdnmimfichijgaa.KRead Go.Proofs.Ytdnmimfichijgaa.KCells Go.Proofs.Ytdnmimfichijgaa.KDisk Go.Proofs.Ytdnmimfichijgaa.KTake Go.Proofs.Ytdnmimfichijgaa.KRef Go.Proofs.Ytdnmimfichijgaa.KROk Go.Proofs.Ytdnmimfichijgaa.KStd Go.Proofs.Ytdnmimfichijgaa.Hp Go.Proofs.Ytdnmimfichijgaa.Rd Go.Proofs.Ytdnmimfichijgaa.Opn
set_option linter.unusedVariables false
set_option linter.unusedSimpArgs false

/-- Blocks that stay as they are. -/
def AR (w : World) (vd vo : Value) (x : Nat) : Nat → Prop := fun b => vd.ownBlock ≠ some b ∧ vo.ownBlock ≠ some b ∧ b ≠ x ∧ b < w.heap.size

structure PR (B : Nat) (w : World) (vd vo vn : Value) (x n : Nat) (t : Rs) (d : Dk) (ys : List (Tn × Value)) : Prop where
  words : w.ownsRow B 2 1 vd n (d.words.map (.int .i64))
  left : -9223372036854775808 ≤ d.left ∧ d.left < 9223372036854775808
  okay : Okay t.done
  few : t.done.length ≤ 1024
  dn : SlA 7 Ed.cells w (AR w vd vo x) vn t.done
  out : OutR w B (AR w vd vo x) vo ys
  ne : ∀ b, vd.ownBlock = some b → vo.ownBlock ≠ some b
  nx : vd.ownBlock ≠ some x ∧ vo.ownBlock ≠ some x

section
variable {B : Nat} {w w' : World} {vd vo vn : Value} {x n : Nat} {t : Rs} {d : Dk} {ys : List (Tn × Value)}
theorem ar_size (h : w.heap.size ≤ w'.heap.size) : ∀ b, AR w vd vo x b → AR w' vd vo x b := fun b hb => ⟨hb.1, hb.2.1, hb.2.2.1, Nat.lt_of_lt_of_le hb.2.2.2 h⟩
theorem PR.len (h : PR B w vd vo vn x n t d ys) : d.words.length = n := by
  have := h.words.1
  rw [List.length_map, Nat.mul_one] at this
  exact this
theorem PR.fr (h : PR B w vd vo vn x n t d ys) {X : Nat → Prop} (hf : Fr X w w') (hx : ∀ b, X b → b = x ∨ w.heap.size ≤ b) (hd : ∀ b, vd.ownBlock = some b → ¬ X b) (ho : ∀ b, vo.ownBlock = some b → ¬ X b) : PR B w' vd vo vn x n t d ys := by
  have ha : ∀ b, AR w vd vo x b → ¬ X b := fun b hb hX => (hx b hX).elim hb.2.2.1 (fun h => by have := hb.2.2.2; omega)
  refine ⟨own_fr h.words hf hd, h.left, h.okay, h.few, (h.dn.fr hf ha).mono (ar_size hf.size), ⟨own_fr h.out.own hf ho, fun y hy => SlA.mono (SlA.fr (h.out.ts y hy) hf ha) (ar_size hf.size), h.out.sl⟩, h.ne, h.nx⟩
theorem PR.grown (h : PR B w vd vo vn x n t d ys) (hg : w.grownBy w' none) : PR B w' vd vo vn x n t d ys :=
  h.fr (.none hg) (X := fun _ => False) (fun _ h => h.elim) (fun _ _ h => h) (fun _ _ h => h)
theorem PR.setx (h : PR B w vd vo vn x n t d ys) (i : Nat) (u : Value) : PR B (w.setCell ⟨x, i, none⟩ u) vd vo vn x n t d ys :=
  h.fr (fr_set (X := fun b => b = x) (p := ⟨x, i, none⟩) (Fr.refl _ _) (.inl rfl) _) (fun b hb => .inl hb) (fun b hb e => h.nx.1 (by rw [hb, show b = x from e])) (fun b hb e => h.nx.2 (by rw [hb, show b = x from e]))
theorem PR.power (h : PR B w vd vo vn x n t d ys) {l : Int} (hl : -9223372036854775808 ≤ l ∧ l < 9223372036854775808) : PR B w vd vo vn x n t ⟨d.words, l⟩ ys := ⟨h.words, hl, h.okay, h.few, h.dn, h.out, h.ne, h.nx⟩
theorem PR.broken (h : PR B w vd vo vn x n t d ys) (b : Bool) : PR B w vd vo vn x n ⟨t.done, b⟩ d ys := ⟨h.words, h.left, h.okay, h.few, h.dn, h.out, h.ne, h.nx⟩
/-- Where the words lie. -/
theorem PR.row (h : PR B w vd vo vn x n t d ys) {ao : Option Addr} {c : Nat} (hv : vd = .slice ao n c) (hn : 0 < n) : ∃ g cur, ao = some ⟨g, 0, none⟩ ∧ B ≤ g ∧ w.heap[g]? = some (.cells cur 2 (0, 0)) ∧ n ≤ c ∧ c ≤ maxLen ∧ cur.size = c ∧ ∀ (j : Nat) (y : Int), d.words[j]? = some y → cur[j]? = some (Value.int .i64 y) := by
  have hw := h.words
  have hl := h.len
  rw [hv] at hw
  obtain ⟨g, cur, h1, h2, h3, h4, h5, h6, h7⟩ := own_row hw hn
  refine ⟨g, cur, h1, h2, h3, h4, h5, by omega, fun j y hy => ?_⟩
  have hj := (List.getElem?_eq_some_iff.1 hy).1
  rw [h7 j (by omega), List.getElem?_map, hy]
  rfl
/-- A word is put. -/
theorem PR.put (h : PR B w vd vo vn x n t d ys) {g c i : Nat} (hv : vd = .slice (some ⟨g, 0, none⟩) n c) (hi : i < n) (z : Int) : PR B (w.setCell ⟨g, i, none⟩ (.int .i64 z)) vd vo vn x n t ⟨d.words.set i z, d.left⟩ ys := by
  obtain ⟨g', cur, e1, hB, hg, hnc, hc, hsz, hcv⟩ := h.row hv (by omega)
  injection e1 with e1
  injection e1 with e1
  subst e1
  have hl := h.len
  have hf : Fr (fun b => b = g) w (w.setCell ⟨g, i, none⟩ (.int .i64 z)) := fr_set (X := fun b => b = g) (p := ⟨g, i, none⟩) (Fr.refl _ _) (.inl rfl) _
  have hob : vd.ownBlock = some g := by rw [hv]; rfl
  have ha : ∀ b, AR w vd vo x b → ¬ b = g := fun b hb e => hb.1 (by rw [hob, e])
  have hcs : cur.size = c * 1 := by omega
  refine ⟨?_, h.left, h.okay, h.few, (h.dn.fr hf ha).mono (ar_size hf.size), ⟨own_fr h.out.own hf (fun b hb e => h.ne g hob (by rw [hb, show b = g from e])), fun y hy => SlA.mono (SlA.fr (h.out.ts y hy) hf ha) (ar_size hf.size), h.out.sl⟩, h.ne, h.nx⟩
  have hset : (w.setCell ⟨g, i, none⟩ (.int .i64 z)).heap[g]? = some (.cells (cur.setIfInBounds i (.int .i64 z)) 2 (0, 0)) := set_self hg _
  rw [hv]
  refine own_of_row hB hset hnc hc (by rw [Array.size_setIfInBounds]; exact hcs) (by simp; exact hl) (fun j hj => ?_)
  rw [Nat.mul_one] at hj
  rw [List.getElem?_map, List.getElem?_set]
  by_cases hij : i = j
  · subst hij
    rw [if_pos rfl, if_pos (by omega)]
    exact Array.getElem?_setIfInBounds_self_of_lt (by omega)
  · rw [if_neg hij]
    have hjl : j < d.words.length := by omega
    show (cur.setIfInBounds i (.int .i64 z))[j]? = _
    rw [Array.getElem?_setIfInBounds_ne hij, hcv j _ (List.getElem?_eq_getElem hjl), List.getElem?_eq_getElem hjl]
    rfl
/-- Other edits were done. -/
theorem PR.edits (h : PR B w vd vo vn x n t d ys) (hg : w.grownBy w' none) (hx : x < w.heap.size ∨ w'.heap.size ≤ x) {B' m : Nat} {v' : Value} {L : List Ed} (hB : w.heap.size ≤ B') (ho : w'.ownsRow B' 40 7 v' m (flC Ed.cells L)) (hL : L.length = m) (hok : Okay L) (hm : m ≤ 1024) (br : Bool) : PR B w' vd vo v' x n ⟨L, br⟩ d ys := by
  have h1 := h.grown hg
  subst hL
  have hd : ∀ b, vd.ownBlock = some b → b < w.heap.size := fun b hb => (own_base h.words hb).2
  have hv : ∀ b, vo.ownBlock = some b → b < w.heap.size := fun b hb => (own_base h.out.own hb).2
  refine ⟨h1.words, h1.left, hok, hm, sla_of_own ed_len ho _ (fun b hb => ?_), h1.out, h1.ne, h1.nx⟩
  have hb2 := own_base ho hb
  exact ⟨fun e => by have := hd b e; omega, fun e => by have := hv b e; omega, by rcases hx with hx | hx <;> omega, hb2.2⟩
/-- What came of a step is kept. -/
theorem PR.push (h : PR B w vd vo vn x n t d ys) {vo' : Value} {k : Nat} {y : Tn × Value} (hk : ys.length = k) (hg : w.grownBy w' vo.ownBlock) (ho : w'.ownsRow B 32 3 vo' (k + 1) (flC tnC ys ++ tnC y)) (hb : vo'.ownBlock = vo.ownBlock ∨ vo'.ownBlock = some w.heap.size) (hy : TosA w (AR w vd vo x) y.2 y.1.ts) (hs : ∃ ao n c, y.2 = .slice ao n c) (x' : Nat) (hx' : w'.heap.size ≤ x') : PR B w' vd vo' vn x' n t d (ys ++ [y]) := by
  have hf : Fr (fun b => vo.ownBlock = some b) w w' := .of hg (fun i e => e)
  have ha : ∀ b, AR w vd vo x b → ¬ vo.ownBlock = some b := fun b hb => hb.2.1
  have hA : ∀ b, AR w vd vo x b → AR w' vd vo' x' b := fun b hb2 => ⟨hb2.1, fun e => by
    rcases hb with h9 | h9
    · exact hb2.2.1 (by rw [← h9]; exact e)
    · rw [h9] at e
      injection e with e
      have := hb2.2.2.2
      omega, fun e => by have := hb2.2.2.2; have := hf.size; omega, Nat.lt_of_lt_of_le hb2.2.2.2 hf.size⟩
  have hw' := own_fr h.words hf (fun b hb => h.ne b hb)
  refine ⟨hw', h.left, h.okay, h.few, (h.dn.fr hf ha).mono hA, ⟨?_, fun z hz => ?_, fun z hz => ?_⟩, fun b hb1 hb2 => ?_, fun e => ?_, fun e => ?_⟩
  · have e : flC tnC (ys ++ [y]) = flC tnC ys ++ tnC y := by rw [flC_append]; simp [flC]
    rw [List.length_append, List.length_singleton, hk, e]
    exact ho
  · rcases List.mem_append.1 hz with hz | hz
    · exact SlA.mono (SlA.fr (h.out.ts z hz) hf ha) hA
    · simp at hz
      subst hz
      exact SlA.mono (SlA.fr hy hf ha) hA
  · rcases List.mem_append.1 hz with hz | hz
    · exact h.out.sl z hz
    · simp at hz
      subst hz
      exact hs
  · have h1 := (own_base h.words hb1).2
    rcases hb with h9 | h9
    · exact h.ne b hb1 (by rw [← h9]; exact hb2)
    · rw [h9] at hb2
      injection hb2 with hb2
      omega
  · have := (own_base hw' e).2
    omega
  · have := (own_base ho e).2
    omega
theorem pr_start {da : Option Addr} {dc : Nat} {ws : List Int} (ho : w.ownsRow B 2 1 (.slice da n dc) n (ws.map (.int .i64))) (hx : w.heap.size ≤ x) : PR B w (.slice da n dc) (.slice none 0 0) (.slice none 0 0) x n ⟨[], false⟩ ⟨ws, -1⟩ [] :=
  ⟨ho, ⟨by simp, by simp⟩, okay_nil, by simp, .inr ⟨_, _, rfl, rfl⟩, ⟨World.ownsRow_nil _ _ _ _, fun y hy => by simp at hy, fun y hy => by simp at hy⟩, fun b _ e => (by cases e), fun e => by have := (own_base ho e).2; omega, fun e => by cases e⟩
theorem PR.ils (h : PR B w vd vo vn x n t d ys) : Ils w vd d.words := by
  have hl := h.len
  obtain ⟨ao, c, hv⟩ := own_slice h.words
  by_cases hn : n = 0
  · refine .inr ⟨ao, c, by rw [hv, hn], List.eq_nil_of_length_eq_zero (by omega)⟩
  · obtain ⟨g, cur, rfl, _, hg, _, _, _, hcv⟩ := h.row hv (by omega)
    refine .inl ⟨g, 0, c, by rw [hv, hl], fun i y hy => ⟨.int .i64 y, ?_, rfl⟩⟩
    rw [Nat.zero_add, cell_of hg]
    exact hcv i y hy
end
theorem runR_nil (t : Rs) (d : Dk) : runR t d [] = ([], d) := rfl
theorem runR_cons (t : Rs) (d : Dk) (p : Stp) (r : List Stp) : runR t d (p :: r) = ((stepR t d p).2.2 :: (runR (stepR t d p).1 (stepR t d p).2.1 r).1, (runR (stepR t d p).1 (stepR t d p).2.1 r).2) := rfl
/-- What the line's error and the line are. -/
def rerrT (t : Rs) : Int := if t.broken = true then 9 else 0
def rlineT (t : Rs) : List Tone := if t.broken = true then [] else tonesR t.done
theorem stepR_eq (t : Rs) (d : Dk) (p : Stp) (L1 : Int) (d2 : Dk) (t1 t2 : Rs) (d3 : Dk) (er : Int) (h1 : (if p.power ≠ 0 then IntKind.i64.wrap (p.power - 1) else d.left) = L1) (h2 : (if 0 < p.poke ∧ p.poke ≤ (d.words.length : Int) then (⟨d.words.set (p.poke - 1).toNat p.word, L1⟩ : Dk) else ⟨d.words, L1⟩) = d2)
    (h3 : (if p.open_ = true then ⟨liesR d2.words, false⟩ else t) = t1) (h4 : (if p.e.do_ ≠ 0 then doR t1 d2 p.e else (t1, d2, 0)) = (t2, d3, er)) : stepR t d p = (t2, d3, ⟨er, rerrT t2, rlineT t2⟩) := by
  unfold stepR
  simp only [h1, h2, h3, h4]
  unfold rerrT rlineT
  split <;> rfl
end Go.Proofs.Ytdnmimfichijgaa.KPR
