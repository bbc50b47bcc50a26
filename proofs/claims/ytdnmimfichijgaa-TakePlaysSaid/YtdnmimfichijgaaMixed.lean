/- A region that draws its order, in which operations that only read stand beside calls and makes that turn the world, these one behind the other: one walk in the text's order serves every order. Plain laws over any program. -/
import Derived.Test.YtdnmimfichijgaaLoose
import Derived.Test.YtdnmimfichijgaaHp
namespace Go.Proofs.Ytdnmimfichijgaa.Mixed
open Go

section
variable {P : Program} {ops : Array Oper} {md : Region.Mode} {C : World → Prop} {B : Nat → Bool} {Q' : Exit → Act → World → Prop}

/-- An operation that turns the world: what it comes to. -/
def bigUpon (P : Program) (R : Value → World → Prop) : Result Next → Prop
  | .ok (.value u) w' => R u w'
  | .ok .skip w' => R undef w'
  | .ok (.enter f args) w' => Calls P f args w' (fun e w'' => ∃ u, e = .returned u ∧ R u w'')
  | _ => False

def bigAt (P : Program) (o : Oper) (a : Act) (w : World) (R : Value → World → Prop) : Prop := bigUpon P R ((execOp a.eval o).run P w)

theorem bigAt_mono {o : Oper} {a : Act} {w : World} {R R' : Value → World → Prop} (h : ∀ u w', R u w' → R' u w') (hh : bigAt P o a w R) : bigAt P o a w R' := by
  unfold bigAt at *
  generalize (execOp a.eval o).run P w = r at *
  cases r with
  | ok n w' =>
    cases n <;> simp only [bigUpon] at hh ⊢
    case value u => exact h _ _ hh
    case skip => exact h _ _ hh
    case enter f args => exact hh.mono fun e w'' ⟨u, he, hr⟩ => ⟨u, he, h _ _ hr⟩
  | halt x w' => simp only [bigUpon] at hh

/-- It comes to something. -/
theorem bigAt_one {o : Oper} {a : Act} {w : World} {R : Value → World → Prop} (hh : bigAt P o a w R) : ∃ u w', R u w' := by
  unfold bigAt at hh
  generalize (execOp a.eval o).run P w = r at *
  cases r with
  | ok n w' =>
    cases n <;> simp only [bigUpon] at hh
    case value u => exact ⟨_, _, hh⟩
    case skip => exact ⟨_, _, hh⟩
    case enter f args =>
      obtain ⟨e, w'', _, ⟨u, _, hr⟩, _⟩ := hh []
      exact ⟨u, w'', hr⟩
  | halt x w' => simp only [bigUpon] at hh

/-- An operation that only reads gives v, in the very world. -/
def same (P : Program) (o : Oper) (a : Act) (w : World) (v : Value) : Prop :=
  (execOp a.eval o).run P w = .ok (.value v) w ∨ ((execOp a.eval o).run P w = .ok .skip w ∧ v = undef)

theorem same_one {o : Oper} {a : Act} {w : World} {v u : Value} (h : same P o a w v) (k : same P o a w u) : v = u := by
  rcases h with h | ⟨h, rfl⟩ <;> rcases k with k | ⟨k, rfl⟩ <;> rw [h] at k <;> simp at k
  · exact k

/-- .. in every world of the class. -/
def smallAt (P : Program) (o : Oper) (a : Act) (C : World → Prop) (v : Value) : Prop := ∀ w, C w → same P o a w v

/-- The walk in the text's order. -/
def wpM (P : Program) (ops : Array Oper) (C : World → Prop) (B : Nat → Bool) (Q : Act → World → Prop) : Nat → List Oper → Act → World → Prop
  | _, [], a, w => Q a w
  | k, o :: rest, a, w =>
    if Region.wanted o (yielded ops a.tmps) then
      (if B k then bigAt P o a w (fun u w' => C w' ∧ wpM P ops C B Q (k + 1) rest (a.put o.dst u) w') else ∃ v, smallAt P o a C v ∧ wpM P ops C B Q (k + 1) rest (a.put o.dst v) w)
    else wpM P ops C B Q (k + 1) rest (a.put o.dst undef) w

theorem wpM_nil {Q : Act → World → Prop} {k : Nat} {a : Act} {w : World} (h : Q a w) : wpM P ops C B Q k [] a w := h

theorem wpM_small {Q : Act → World → Prop} {k : Nat} {o : Oper} {rest : List Oper} {a : Act} {w : World} (hw : Region.wanted o (yielded ops a.tmps) = true) (hB : B k = false) (v : Value) (hv : smallAt P o a C v)
    (h : wpM P ops C B Q (k + 1) rest (a.put o.dst v) w) : wpM P ops C B Q k (o :: rest) a w := by
  unfold wpM
  rw [if_pos hw, hB]
  exact ⟨v, hv, h⟩

theorem wpM_big {Q : Act → World → Prop} {k : Nat} {o : Oper} {rest : List Oper} {a : Act} {w : World} (hw : Region.wanted o (yielded ops a.tmps) = true) (hB : B k = true)
    (h : bigAt P o a w (fun u w' => C w' ∧ wpM P ops C B Q (k + 1) rest (a.put o.dst u) w')) : wpM P ops C B Q k (o :: rest) a w := by
  unfold wpM
  rw [if_pos hw, hB]
  exact h

theorem wpM_skip {Q : Act → World → Prop} {k : Nat} {o : Oper} {rest : List Oper} {a : Act} {w : World} (hw : Region.wanted o (yielded ops a.tmps) = false)
    (h : wpM P ops C B Q (k + 1) rest (a.put o.dst undef) w) : wpM P ops C B Q k (o :: rest) a w := by
  unfold wpM
  rw [if_neg (by rw [hw]; exact Bool.false_ne_true)]
  exact h

def mOp (P : Program) (ops : Array Oper) (C : World → Prop) (B : Nat → Bool) (i : Nat) (K : Act → World → Prop) (a : Act) (w : World) : Prop :=
  match ops[i]? with
  | none => K a w
  | some o =>
    if Region.wanted o (yielded ops a.tmps) then
      (if B i then bigAt P o a w (fun u w' => C w' ∧ K (a.put o.dst u) w') else ∃ v, smallAt P o a C v ∧ K (a.put o.dst v) w)
    else K (a.put o.dst undef) w

theorem mOp_none {i : Nat} {K : Act → World → Prop} {a : Act} {w : World} (h : ops[i]? = none) : mOp P ops C B i K a w ↔ K a w := by unfold mOp; simp [h]
theorem mOp_big {i : Nat} {o : Oper} {K : Act → World → Prop} {a : Act} {w : World} (h : ops[i]? = some o) (hw : Region.wanted o (yielded ops a.tmps) = true) (hB : B i = true) :
    mOp P ops C B i K a w ↔ bigAt P o a w (fun u w' => C w' ∧ K (a.put o.dst u) w') := by unfold mOp; simp [h, hw, hB]
theorem mOp_small {i : Nat} {o : Oper} {K : Act → World → Prop} {a : Act} {w : World} (h : ops[i]? = some o) (hw : Region.wanted o (yielded ops a.tmps) = true) (hB : B i = false) :
    mOp P ops C B i K a w ↔ ∃ v, smallAt P o a C v ∧ K (a.put o.dst v) w := by unfold mOp; simp [h, hw, hB]
theorem mOp_skip {i : Nat} {o : Oper} {K : Act → World → Prop} {a : Act} {w : World} (h : ops[i]? = some o) (hw : Region.wanted o (yielded ops a.tmps) = false) : mOp P ops C B i K a w ↔ K (a.put o.dst undef) w := by
  unfold mOp; simp [h, hw]

/-- Whatever order is picked from here on. -/
def wpAnyM (P : Program) (md : Region.Mode) (ops : Array Oper) (C : World → Prop) (B : Nat → Bool) (Q : Act → World → Prop) : Nat → Array Bool → Act → World → Prop
  | 0, listed, a, w => Region.ready md ops listed = [] ∧ Q a w
  | fuel + 1, listed, a, w =>
    (Region.ready md ops listed = [] → Q a w) ∧
    ∀ i ∈ Region.ready md ops listed, mOp P ops C B i (wpAnyM P md ops C B Q fuel (listed.setIfInBounds i true)) a w

theorem wp_of_big {o : Oper} {a : Act} {w : World} {K K' : Act → World → Prop} (h : ∀ a w, C w → K a w → K' a w) (hh : bigAt P o a w (fun u w' => C w' ∧ K (a.put o.dst u) w')) : o.wp P a w K' Q' := by
  unfold bigAt at hh
  unfold Oper.wp
  generalize (execOp a.eval o).run P w = r at *
  cases r with
  | ok n w' =>
    cases n <;> simp only [bigUpon] at hh <;> simp only [Oper.upon]
    case value u => exact h _ _ hh.1 hh.2
    case skip => exact h _ _ hh.1 hh.2
    case enter f args => exact hh.mono fun e w'' ⟨u, he, hc, hk⟩ => by subst he; exact h _ _ hc hk
  | halt x w' => simp only [bigUpon] at hh

theorem wp_of_same {o : Oper} {a : Act} {w : World} {v : Value} {K' : Act → World → Prop} (h : same P o a w v) (hk : K' (a.put o.dst v) w) : o.wp P a w K' Q' := by
  unfold Oper.wp
  rcases h with h | ⟨h, rfl⟩ <;> rw [h] <;> exact hk

theorem wpOp_of_mOp {i : Nat} {a : Act} {w : World} {K K' : Act → World → Prop} (hC : C w) (h : ∀ a w, C w → K a w → K' a w) (hh : mOp P ops C B i K a w) : wpOp P ops Q' i K' a w := by
  unfold wpOp
  split
  · rename_i ho; exact h _ _ hC ((mOp_none ho).1 hh)
  · rename_i o ho
    split
    · rename_i hw
      cases hB : B i with
      | true => exact .inl (wp_of_big h ((mOp_big ho hw hB).1 hh))
      | false =>
        obtain ⟨v, h1, h2⟩ := (mOp_small ho hw hB).1 hh
        exact .inl (wp_of_same (h1 w hC) (h _ _ hC h2))
    · rename_i hw; exact h _ _ hC ((mOp_skip ho (by simpa using hw)).1 hh)

theorem wpAny_of_mixed {Q : Act → World → Prop} (hQ : ∀ a w, C w → Q a w → Q' .normal a w) : ∀ (fuel : Nat) (listed : Array Bool) (a : Act) (w : World), C w →
    wpAnyM P md ops C B Q fuel listed a w → wpAny P md ops Q' fuel listed a w
  | 0, _, _, _, hw, h => ⟨h.1, hQ _ _ hw h.2⟩
  | fuel + 1, _, _, _, hw, h => ⟨fun h0 => hQ _ _ hw (h.1 h0), fun i hi => wpOp_of_mOp hw (fun a' w' hw' => wpAny_of_mixed hQ fuel _ a' w' hw') (h.2 i hi)⟩

/-- What waits for operation i, by whatever way. -/
def Waits (md : Region.Mode) (ops : Array Oper) (i : Nat) (D : Nat → Bool) (listed : Array Bool) : Prop :=
  D i = false ∧ ∀ j, D j = true → listed.getD j true = false ∧ ∃ oj, ops[j]? = some oj ∧ ∃ e ∈ oj.after, Region.binds md e = true ∧ (e.on = i ∨ D e.on = true)

theorem false_of_true {listed : Array Bool} {j : Nat} (h : listed.getD j true = false) : listed.getD j false = false := by
  rcases Nat.lt_or_ge j listed.size with h' | h'
  · simp [h'] at h ⊢; exact h
  · simp [Array.getElem?_eq_none h'] at h

theorem not_ready {i j : Nat} {D : Nat → Bool} {listed : Array Bool} (hD : Waits md ops i D listed) (hi : listed.getD i true = false) (hj : D j = true) : j ∉ Region.ready md ops listed := by
  intro hr
  obtain ⟨_, oj, hoj, e, he, hb, hon⟩ := hD.2 j hj
  obtain ⟨_, oj', hoj', hall⟩ := mem_ready.1 hr
  rw [hoj] at hoj'
  cases hoj'
  have h1 := hall e he hb
  rcases hon with hon | hon
  · rw [hon, false_of_true hi] at h1; cases h1
  · rw [false_of_true (hD.2 _ hon).1] at h1; cases h1

theorem Waits.list {i j : Nat} {D : Nat → Bool} {listed : Array Bool} (hD : Waits md ops i D listed) (hj : D j = false) : Waits md ops i D (listed.setIfInBounds j true) :=
  ⟨hD.1, fun k hk => ⟨by rw [getD_set_ne true (by intro e; subst e; rw [hj] at hk; cases hk)]; exact (hD.2 k hk).1, (hD.2 k hk).2⟩⟩

/-- An operation that may come up now may be taken first: whatever has not come up waits for it, or is apart from it and the two are not both great. -/
theorem wpAnyM_first {Q : Act → World → Prop} {i : Nat} {oi : Oper} {D : Nat → Bool} (hi : ops[i]? = some oi) (hsel : ∀ (j : Nat) (o : Oper) cs b, ops[j]? = some o → o.op ≠ .select cs b) :
    ∀ (fuel : Nat) (listed : Array Bool) (a : Act) (w : World), C w → Waits md ops i D listed →
      (∀ j oj, ops[j]? = some oj → j ≠ i → listed.getD j true = false → D j = false → oi.apart ops oj = true ∧ (B i && B j) = false) →
      i ∈ Region.ready md ops listed →
      mOp P ops C B i (wpAnyM P md ops C B Q fuel (listed.setIfInBounds i true)) a w → wpAnyM P md ops C B Q (fuel + 1) listed a w := by
  intro fuel
  induction fuel with
  | zero =>
    intro listed a w hC hD hfree hr H
    refine ⟨fun h => (by rw [h] at hr; cases hr), fun j hj => ?_⟩
    by_cases hji : j = i
    · subst hji; exact H
    · have hrj := ready_mono hj hji
      have hno : Region.ready md ops (listed.setIfInBounds i true) = [] := by
        cases hwi : Region.wanted oi (yielded ops a.tmps) with
        | false => exact ((mOp_skip hi hwi).1 H).1
        | true =>
          cases hB : B i with
          | true =>
            obtain ⟨u, w', _, h⟩ := bigAt_one ((mOp_big hi hwi hB).1 H)
            exact h.1
          | false =>
            obtain ⟨v, _, h⟩ := (mOp_small hi hwi hB).1 H
            exact h.1
      rw [hno] at hrj
      cases hrj
  | succ fuel ih =>
    intro listed a w hC hD hfree hr H
    refine ⟨fun h => (by rw [h] at hr; cases hr), fun j hj => ?_⟩
    by_cases hji : j = i
    · subst hji; exact H
    · obtain ⟨hjun, oj, hoj, hall⟩ := mem_ready.1 hj
      have hi0 := (mem_ready.1 hr).1
      have hDj : D j = false := by
        cases h : D j with
        | false => rfl
        | true => exact (not_ready hD hi0 h hj).elim
      obtain ⟨hap, hbb⟩ := hfree j oj hoj hji hjun hDj
      obtain ⟨h1, h2, h3⟩ := Oper.apart_spec hap
      have hsi := fun cs b => hsel i oi cs b hi
      have hsj := fun cs b => hsel j oj cs b hoj
      have hfree' : ∀ k ok, ops[k]? = some ok → k ≠ i → (listed.setIfInBounds j true).getD k true = false → D k = false → oi.apart ops ok = true ∧ (B i && B k) = false := fun k ok hk hki hun hdk => by
        refine hfree k ok hk hki ?_ hdk
        by_cases hjk : j = k
        · subst hjk; exact hjun
        · rw [getD_set_ne true hjk] at hun; exact hun
      have hD' := hD.list (j := j) hDj
      have hr' := ready_mono hr (Ne.symm hji)
      have hwi' : ∀ u, Region.wanted oi (yielded ops (a.put oj.dst u).tmps) = Region.wanted oi (yielded ops a.tmps) := fun u => wanted_put oi a oj.dst u h3
      have hwj' : ∀ u, Region.wanted oj (yielded ops (a.put oi.dst u).tmps) = Region.wanted oj (yielded ops a.tmps) := fun u => wanted_put oj a oi.dst u h1
      have hei : ∀ u, execOp (a.put oj.dst u).eval oi = execOp a.eval oi := fun u => execOp_put oi hsi a oj.dst u h3
      have hej : ∀ u, execOp (a.put oi.dst u).eval oj = execOp a.eval oj := fun u => execOp_put oj hsj a oi.dst u h1
      have sm_i : ∀ u v, smallAt P oi (a.put oj.dst u) C v ↔ smallAt P oi a C v := fun u v => by unfold smallAt same; rw [hei]
      have sm_j : ∀ u v, smallAt P oj (a.put oi.dst u) C v ↔ smallAt P oj a C v := fun u v => by unfold smallAt same; rw [hej]
      have bg_i : ∀ u w R, bigAt P oi (a.put oj.dst u) w R ↔ bigAt P oi a w R := fun u w R => by unfold bigAt; rw [hei]
      have bg_j : ∀ u w R, bigAt P oj (a.put oi.dst u) w R ↔ bigAt P oj a w R := fun u w R => by unfold bigAt; rw [hej]
      have swap : ∀ (v u : Value) (w : World), wpAnyM P md ops C B Q fuel ((listed.setIfInBounds i true).setIfInBounds j true) ((a.put oi.dst v).put oj.dst u) w →
          wpAnyM P md ops C B Q fuel ((listed.setIfInBounds j true).setIfInBounds i true) ((a.put oj.dst u).put oi.dst v) w := fun v u w h => by
        rw [Array.setIfInBounds_comm _ _ hji, ← Act.put_comm a v u h2]
        exact h
      cases hwi : Region.wanted oi (yielded ops a.tmps) with
      | false =>
        have step := ((mOp_skip hi hwi).1 H).2 j (ready_mono hj hji)
        cases hwj : Region.wanted oj (yielded ops a.tmps) with
        | false =>
          have s2 := (mOp_skip hoj (by rw [hwj']; exact hwj)).1 step
          exact (mOp_skip hoj hwj).2 (ih _ _ _ hC hD' hfree' hr' ((mOp_skip hi (by rw [hwi']; exact hwi)).2 (swap _ _ _ s2)))
        | true =>
          cases hBj : B j with
          | true =>
            have s2 := (bg_j _ _ _).1 ((mOp_big hoj (by rw [hwj']; exact hwj) hBj).1 step)
            exact (mOp_big hoj hwj hBj).2 (bigAt_mono (fun u w' ⟨hc, hk⟩ => ⟨hc, ih _ _ _ hc hD' hfree' hr' ((mOp_skip hi (by rw [hwi']; exact hwi)).2 (swap _ _ _ hk))⟩) s2)
          | false =>
            obtain ⟨v, hv, hk⟩ := (mOp_small hoj (by rw [hwj']; exact hwj) hBj).1 step
            exact (mOp_small hoj hwj hBj).2 ⟨v, (sm_j _ _).1 hv, ih _ _ _ hC hD' hfree' hr' ((mOp_skip hi (by rw [hwi']; exact hwi)).2 (swap _ _ _ hk))⟩
      | true =>
        cases hBi : B i with
        | false =>
          obtain ⟨vi, hvi, hK⟩ := (mOp_small hi hwi hBi).1 H
          have step := hK.2 j (ready_mono hj hji)
          cases hwj : Region.wanted oj (yielded ops a.tmps) with
          | false =>
            have s2 := (mOp_skip hoj (by rw [hwj']; exact hwj)).1 step
            exact (mOp_skip hoj hwj).2 (ih _ _ _ hC hD' hfree' hr' ((mOp_small hi (by rw [hwi']; exact hwi) hBi).2 ⟨vi, (sm_i _ _).2 hvi, swap _ _ _ s2⟩))
          | true =>
            cases hBj : B j with
            | true =>
              have s2 := (bg_j _ _ _).1 ((mOp_big hoj (by rw [hwj']; exact hwj) hBj).1 step)
              exact (mOp_big hoj hwj hBj).2 (bigAt_mono (fun u w' ⟨hc, hk⟩ => ⟨hc, ih _ _ _ hc hD' hfree' hr' ((mOp_small hi (by rw [hwi']; exact hwi) hBi).2 ⟨vi, (sm_i _ _).2 hvi, swap _ _ _ hk⟩)⟩) s2)
            | false =>
              obtain ⟨v, hv, hk⟩ := (mOp_small hoj (by rw [hwj']; exact hwj) hBj).1 step
              exact (mOp_small hoj hwj hBj).2 ⟨v, (sm_j _ _).1 hv, ih _ _ _ hC hD' hfree' hr' ((mOp_small hi (by rw [hwi']; exact hwi) hBi).2 ⟨vi, (sm_i _ _).2 hvi, swap _ _ _ hk⟩)⟩
        | true =>
          have hBj : B j = false := by rw [hBi] at hbb; simpa using hbb
          have big := (mOp_big hi hwi hBi).1 H
          cases hwj : Region.wanted oj (yielded ops a.tmps) with
          | false =>
            refine (mOp_skip hoj hwj).2 (ih _ _ _ hC hD' hfree' hr' ((mOp_big hi (by rw [hwi']; exact hwi) hBi).2 ((bg_i _ _ _).2 (bigAt_mono ?_ big))))
            rintro u w' ⟨hc, hk⟩
            exact ⟨hc, swap _ _ _ ((mOp_skip hoj (by rw [hwj']; exact hwj)).1 (hk.2 j (ready_mono hj hji)))⟩
          | true =>
            obtain ⟨u0, w0', hc0, hk0⟩ := bigAt_one big
            obtain ⟨v, hv, _⟩ := (mOp_small hoj (by rw [hwj']; exact hwj) hBj).1 (hk0.2 j (ready_mono hj hji))
            have hv' := (sm_j _ _).1 hv
            refine (mOp_small hoj hwj hBj).2 ⟨v, hv', ih _ _ _ hC hD' hfree' hr' ((mOp_big hi (by rw [hwi']; exact hwi) hBi).2 ((bg_i _ _ _).2 (bigAt_mono ?_ big)))⟩
            rintro u w' ⟨hc, hk⟩
            obtain ⟨v2, hv2, hk2⟩ := (mOp_small hoj (by rw [hwj']; exact hwj) hBj).1 (hk.2 j (ready_mono hj hji))
            have e : v2 = v := same_one ((sm_j _ _).1 hv2 w hC) (hv' w hC)
            subst e
            exact ⟨hc, swap _ _ _ hk2⟩

/-- What waits for operation k, gone through from the next one on. -/
def deps (md : Region.Mode) (ops : Array Oper) (k : Nat) : List Nat :=
  (List.range ops.size).foldl (fun acc j => if k < j && ((ops[j]?).map fun o => o.after.any fun e => Region.binds md e && (e.on == k || acc.contains e.on)).getD false then acc ++ [j] else acc) []

/-- May operation k be taken first, when just those ahead of it have come up? -/
def firstB (md : Region.Mode) (ops : Array Oper) (B : Nat → Bool) (k : Nat) : Bool :=
  let D := deps md ops k
  let listed := (Array.range ops.size).map (fun j => decide (j < k))
  (Region.ready md ops listed).contains k && !D.contains k &&
  (D.all fun j => decide (k < j) && ((ops[j]?).map fun o => o.after.any fun e => Region.binds md e && (e.on == k || D.contains e.on)).getD false) &&
  (List.range ops.size).all fun j => decide (j ≤ k) || D.contains j || (((ops[j]?).map fun oj => ((ops[k]?).map fun ok => ok.apart ops oj).getD false).getD false && !(B k && B j))

def lexM (md : Region.Mode) (ops : Array Oper) (B : Nat → Bool) : Bool :=
  Region.noSelect ops && ((List.range ops.size).all fun k => firstB md ops B k) && (Region.ready md ops (Array.replicate ops.size true)).isEmpty

def listedTo (n k : Nat) : Array Bool := (Array.range n).map (fun j => decide (j < k))

theorem listedTo_get (n k j : Nat) (d : Bool) : (listedTo n k).getD j d = if j < n then decide (j < k) else d := by
  unfold listedTo
  by_cases h : j < n <;> simp [h]

theorem listedTo_succ (n k : Nat) : (listedTo n k).setIfInBounds k true = listedTo n (k + 1) := by
  apply Array.ext
  · simp [listedTo]
  · intro i h1 h2
    simp only [Array.size_setIfInBounds] at h1
    rw [Array.getElem_setIfInBounds (by simpa using h1)]
    simp only [listedTo, Array.getElem_map, Array.getElem_range]
    by_cases h : k = i
    · subst h; simp
    · rw [if_neg h, Bool.eq_iff_iff]; simp; omega

theorem wpAnyM_lex {Q : Act → World → Prop} (hs : Region.noSelect ops = true) (hf : ∀ k, k < ops.size → firstB md ops B k = true) (he : Region.ready md ops (listedTo ops.size ops.size) = []) : ∀ (l : List Oper) (k : Nat) (a : Act) (w : World), C w →
    (∀ j, l[j]? = ops[k + j]?) → k + l.length = ops.size → wpM P ops C B Q k l a w → wpAnyM P md ops C B Q l.length (listedTo ops.size k) a w
  | [], k, a, w, _, _, hk, h => ⟨by simp at hk; rw [hk]; exact he, h⟩
  | o :: l, k, a, w, hC, hl, hk, h => by
    have h0 : ops[k]? = some o := by simpa using (hl 0).symm
    have hl' : ∀ j, l[j]? = ops[k + 1 + j]? := fun j => by have := hl (j + 1); simpa [Nat.add_assoc, Nat.add_comm 1 j] using this
    have hkn : k < ops.size := (Array.getElem?_eq_some_iff.1 h0).1
    have hk' : k + 1 + l.length = ops.size := by simp at hk; omega
    have hF := hf k hkn
    unfold firstB at hF
    simp only [Bool.and_eq_true, List.all_eq_true, Bool.not_eq_true', decide_eq_true_eq, Bool.or_eq_true, List.mem_range] at hF
    obtain ⟨⟨⟨hr, hDk⟩, hDall⟩, hfree⟩ := hF
    refine wpAnyM_first (D := fun j => (deps md ops k).contains j) h0 (Region.noSelect_spec hs) l.length (listedTo ops.size k) a w hC ⟨hDk, fun j hj => ?_⟩ ?_ (by simpa [listedTo] using hr) ?_
    · obtain ⟨h1, h2⟩ := hDall j (by simpa using hj)
      cases ho : ops[j]? with
      | none => rw [ho] at h2; simp at h2
      | some oj =>
        rw [ho] at h2
        simp only [Option.map_some, Option.getD_some, Array.any_eq_true, Bool.and_eq_true, Bool.or_eq_true, beq_iff_eq] at h2
        obtain ⟨i, hi, hb, hon⟩ := h2
        have hjn : j < ops.size := (Array.getElem?_eq_some_iff.1 ho).1
        exact ⟨by rw [listedTo_get, if_pos hjn]; simp; omega, oj, rfl, oj.after[i], Array.getElem_mem hi, hb, hon⟩
    · intro j oj hoj hjk hun hDj
      have hjn : j < ops.size := (Array.getElem?_eq_some_iff.1 hoj).1
      rw [listedTo_get, if_pos hjn] at hun
      simp at hun
      rcases hfree j hjn with (h1 | h1) | h1
      · omega
      · rw [hDj] at h1; cases h1
      · rw [hoj, h0] at h1
        simp only [Option.map_some, Option.getD_some] at h1
        exact ⟨h1.1, by simpa using h1.2⟩
    · rw [listedTo_succ]
      have IH := fun a w hC h => wpAnyM_lex (Q := Q) hs hf he l (k + 1) a w hC hl' hk' h
      unfold wpM at h
      cases hw : Region.wanted o (yielded ops a.tmps) with
      | false =>
        rw [if_neg (by rw [hw]; exact Bool.false_ne_true)] at h
        exact (mOp_skip h0 hw).2 (IH _ _ hC h)
      | true =>
        rw [if_pos hw] at h
        cases hB : B k with
        | true =>
          rw [hB] at h
          exact (mOp_big h0 hw hB).2 (bigAt_mono (fun u w' ⟨hc, hk⟩ => ⟨hc, IH _ _ hc hk⟩) h)
        | false =>
          rw [hB] at h
          obtain ⟨v, hv, hk⟩ := h
          exact (mOp_small h0 hw hB).2 ⟨v, hv, IH _ _ hC hk⟩

/-- One walk in the text's order serves every order. 'B': which operations turn the world. -/
theorem wp_region_mixed {id : Nat} {Q : Exit → Act → World → Prop} {a : Act} {w : World} {l : List Oper} (C : World → Prop) (B : Nat → Bool) (hm : P.follows .mixedOrders = true) (hB : lexM .any l.toArray B = true) (hC : C w.drew)
    (h : wpM P l.toArray C B (fun a' w' => C w' → Q .normal a' w') 0 l a w.drew) : (Code.region id l.toArray true).wp P Q a w := by
  unfold lexM at hB
  simp only [Bool.and_eq_true, List.all_eq_true, List.mem_range, List.isEmpty_iff] at hB
  obtain ⟨⟨hs, hf⟩, he⟩ := hB
  have e1 : listedTo l.toArray.size l.toArray.size = Array.replicate l.toArray.size true := by
    apply Array.ext
    · simp [listedTo]
    · intro i h1 h2; simp [listedTo] at h1 ⊢; exact h1
  have e0 : Array.replicate l.toArray.size false = listedTo l.toArray.size 0 := by
    apply Array.ext
    · simp [listedTo]
    · intro i h1 h2; simp [listedTo]
  refine wp_region_any hm (wpAny_of_mixed (C := C) (B := B) (Q := fun a' w' => C w' → Q .normal a' w') (fun _ w' hw' h => h hw') _ _ _ _ hC ?_)
  rw [e0]
  exact wpAnyM_lex hs hf (by rw [e1]; exact he) l 0 a _ hC (by simp) (by simp) h

/-- The worlds in which nothing that was there has turned. -/
structure Later (W : World) where
  w : World
  h : W.grownBy w none

/-- The class of these. -/
def late (W : World) (w' : World) : Prop := ∃ n : Later W, w' = n.w

theorem late_of {W w' : World} (h : W.grownBy w' none) : late W w' := ⟨⟨w', h⟩, rfl⟩

theorem Later.nonempty (W : World) : Nonempty (Later W) := ⟨⟨W, ⟨rfl, rfl, rfl, Nat.le_refl _, fun _ _ _ => rfl⟩⟩⟩

theorem Later.cell {W : World} {p : Addr} {v : Value} (h : W.cell? p = some v) (n : Later W) : n.w.cell? p = some v := n.h.cell h (by simp)

/-- An operation that is quiet in the class, one that enters nothing. -/
theorem wpM_quiet {Q : Act → World → Prop} {k : Nat} {o : Oper} {rest : List Oper} {a : Act} {w : World} (hw : Region.wanted o (yielded ops a.tmps) = true) (hB : B k = false) (hs : Loose.still o.op = true)
    (h : ∀ K : Act → Prop, (∀ a, wpM P ops C B Q (k + 1) rest a w → K a) → o.quiet P a C K) : wpM P ops C B Q k (o :: rest) a w := by
  obtain ⟨v, h1, h2⟩ := h _ fun _ h => h
  refine wpM_small hw hB v (fun w' hC => ?_) h2
  have h3 := h1 w' hC
  have h4 := Loose.no_enter (P := P) (ρ := a.eval) hs w'
  unfold Oper.quietAt at h3
  unfold same
  generalize (execOp a.eval o).run P w' = r at *
  cases r with
  | ok n w'' =>
    cases n <;> simp only [Oper.quietUpon] at h3
    case value u => obtain ⟨rfl, rfl⟩ := h3; exact .inl rfl
    case skip => obtain ⟨rfl, rfl⟩ := h3; exact .inr ⟨rfl, rfl⟩
    case enter f args => exact (h4 _ _ _ rfl).elim
  | halt x w'' => simp only [Oper.quietUpon] at h3

theorem wpM_val {Q : Act → World → Prop} {k : Nat} {o : Oper} {rest : List Oper} {a : Act} {w : World} (hw : Region.wanted o (yielded ops a.tmps) = true) (hB : B k = false) (v : Value)
    (hv : ∀ w', C w' → (execOp a.eval o).run P w' = .ok (.value v) w') (h : wpM P ops C B Q (k + 1) rest (a.put o.dst v) w) : wpM P ops C B Q k (o :: rest) a w :=
  wpM_small hw hB v (fun w' hC => .inl (hv w' hC)) h

theorem wpM_call {Q : Act → World → Prop} {k : Nat} {o : Oper} {rest : List Oper} {a : Act} {w : World} (hw : Region.wanted o (yielded ops a.tmps) = true) (hB : B k = true) (f : FuncId) (args : Array Value)
    (hr : (execOp a.eval o).run P w = .ok (.enter f args) w) (hc : Calls P f args w (fun e w' => ∃ u, e = .returned u ∧ C w' ∧ wpM P ops C B Q (k + 1) rest (a.put o.dst u) w')) : wpM P ops C B Q k (o :: rest) a w := by
  refine wpM_big hw hB ?_
  unfold bigAt
  rw [hr]
  exact hc

theorem wpM_make {Q : Act → World → Prop} {k : Nat} {o : Oper} {rest : List Oper} {a : Act} {w : World} (hw : Region.wanted o (yielded ops a.tmps) = true) (hB : B k = true) (u : Value) (w' : World)
    (hr : (execOp a.eval o).run P w = .ok (.value u) w') (hc : C w') (h : wpM P ops C B Q (k + 1) rest (a.put o.dst u) w') : wpM P ops C B Q k (o :: rest) a w := by
  refine wpM_big hw hB ?_
  unfold bigAt
  rw [hr]
  exact ⟨hc, h⟩

/-- 'make([]T, n)' in such a region. -/
theorem wpM_make_full {Q : Act → World → Prop} {k : Nat} {o : Oper} {rest : List Oper} {a : Act} {w : World} (hw : Region.wanted o (yielded ops a.tmps) = true) (hB : B k = true) (l c : Operand) (t : TypeId) (hop : o.op = Op.makeSlice t l c)
    (e : TypeId) (i : TypeInfo) (z : Value) (size : Nat) (h1 : P.underlying t = some (.slice e)) (h2 : P.info? e = some i) (h3 : i.zero = some z) (h4 : i.size = size)
    (kl kc : IntKind) (L D : Int) (n : Nat) (hl : a.eval l = .int kl L) (hc : a.eval c = .int kc D) (hL : L = (n : Int)) (hD : D = (n : Int)) (b2 : i.bytes * n ≤ 281474976710656) (b3 : n ≤ maxLen)
    (hK : ∀ w', w'.ownsRow w.heap.size e size (.slice (some ⟨w.heap.size, 0, none⟩) n n) n (madeCells z.cells (n * size)).toList → w.grownBy w' none → C w' ∧ wpM P ops C B Q (k + 1) rest (a.put o.dst (.slice (some ⟨w.heap.size, 0, none⟩) n n)) w') :
    wpM P ops C B Q k (o :: rest) a w := by
  obtain ⟨w', hrun, r1, r2⟩ := run_make_full (P := P) w w.heap.size t e i z size h1 h2 h3 h4 kl kc n b2 b3 (Nat.le_refl _)
  subst hL
  subst hD
  obtain ⟨hc', hk⟩ := hK w' r1 r2
  exact wpM_make hw hB _ w' (by simp [execOp, hop, hl, hc, hrun, Result.andThen]) hc' hk

end
end Go.Proofs.Ytdnmimfichijgaa.Mixed
