/- A region that draws its order and whose operations may draw what they answer (a NaN's bits): one walk in the text's order serves every order. Plain laws over any program. -/
import Derived.Deep.Quiet
namespace Go.Proofs.Ytdnmimfichijgaa.Loose
open Go

section
variable {P : Program} {ops : Array Oper} {md : Region.Mode} {C : World → Prop} {cv : Nat → Option Value}

/-- What an operation gives in a world: a value, and a world of the class; a call: the value that was named ahead. -/
def upon (P : Program) (C : World → Prop) (c : Option Value) (w : World) (v : Value) : Result Next → Prop
  | .ok (.value u) w' => C w' ∧ u = v
  | .ok .skip w' => C w' ∧ undef = v
  | .ok (.enter f args) w' => w' = w ∧ c = some v ∧ Calls P f args w (fun e w'' => e = .returned v ∧ C w'')
  | _ => False

def gives (P : Program) (o : Oper) (a : Act) (C : World → Prop) (c : Option Value) (w : World) (v : Value) : Prop := upon P C c w v ((execOp a.eval o).run P w)

theorem gives_one {o : Oper} {a : Act} {c : Option Value} {w : World} {v u : Value} (h : gives P o a C c w v) (k : gives P o a C c w u) : v = u := by
  unfold gives at h k
  generalize (execOp a.eval o).run P w = r at h k
  cases r with
  | ok n w' =>
    cases n <;> simp only [upon] at h k
    case value x => exact h.2.symm.trans k.2
    case skip => exact h.2.symm.trans k.2
    case enter f args =>
      have := h.2.1.symm.trans k.2.1
      exact Option.some.inj this
  | halt x w' => simp only [upon] at h

/-- One operation: whatever it gives, on we go. -/
def loose (P : Program) (o : Oper) (a : Act) (C : World → Prop) (c : Option Value) (next : Act → Prop) : Prop := ∀ w, C w → ∃ v, gives P o a C c w v ∧ next (a.put o.dst v)

/-- The walk in the text's order; 'k': the number of the first operation. -/
def wpL (P : Program) (ops : Array Oper) (C : World → Prop) (cv : Nat → Option Value) (Q : Act → Prop) : Nat → List Oper → Act → Prop
  | _, [], a => Q a
  | k, o :: rest, a => if Region.wanted o (yielded ops a.tmps) then loose P o a C (cv k) (wpL P ops C cv Q (k + 1) rest) else wpL P ops C cv Q (k + 1) rest (a.put o.dst undef)

theorem wpL_nil {Q : Act → Prop} {a : Act} {k : Nat} (h : Q a) : wpL P ops C cv Q k [] a := h

theorem wpL_want {Q : Act → Prop} {a : Act} {k : Nat} {o : Oper} {rest : List Oper} (hw : Region.wanted o (yielded ops a.tmps) = true)
    (h : ∀ K : Act → Prop, (∀ a, wpL P ops C cv Q (k + 1) rest a → K a) → loose P o a C (cv k) K) : wpL P ops C cv Q k (o :: rest) a := by
  unfold wpL
  rw [if_pos hw]
  exact h _ fun _ h => h

theorem wpL_skip {Q : Act → Prop} {a : Act} {k : Nat} {o : Oper} {rest : List Oper} (hw : Region.wanted o (yielded ops a.tmps) = false)
    (h : wpL P ops C cv Q (k + 1) rest (a.put o.dst undef)) : wpL P ops C cv Q k (o :: rest) a := by
  unfold wpL
  rw [if_neg (by rw [hw]; exact Bool.false_ne_true)]
  exact h

def lOp (P : Program) (ops : Array Oper) (C : World → Prop) (cv : Nat → Option Value) (i : Nat) (K : Act → Prop) (a : Act) : Prop :=
  match ops[i]? with
  | none => K a
  | some o => if Region.wanted o (yielded ops a.tmps) then loose P o a C (cv i) K else K (a.put o.dst undef)

theorem lOp_none {i : Nat} {K : Act → Prop} {a : Act} (h : ops[i]? = none) : lOp P ops C cv i K a ↔ K a := by unfold lOp; simp [h]
theorem lOp_want {i : Nat} {o : Oper} {K : Act → Prop} {a : Act} (h : ops[i]? = some o) (hw : Region.wanted o (yielded ops a.tmps) = true) : lOp P ops C cv i K a ↔ loose P o a C (cv i) K := by
  unfold lOp; simp [h, hw]
theorem lOp_skip {i : Nat} {o : Oper} {K : Act → Prop} {a : Act} (h : ops[i]? = some o) (hw : Region.wanted o (yielded ops a.tmps) = false) : lOp P ops C cv i K a ↔ K (a.put o.dst undef) := by
  unfold lOp; simp [h, hw]

theorem loose_mono {o : Oper} {a : Act} {c : Option Value} {K K' : Act → Prop} (h : ∀ a, K a → K' a) (hh : loose P o a C c K) : loose P o a C c K' :=
  fun w hw => let ⟨v, h1, h2⟩ := hh w hw; ⟨v, h1, h _ h2⟩

theorem lOp_mono {i : Nat} {a : Act} {K K' : Act → Prop} (h : ∀ a, K a → K' a) (hh : lOp P ops C cv i K a) : lOp P ops C cv i K' a := by
  cases ho : ops[i]? with
  | none => exact (lOp_none ho).2 (h _ ((lOp_none ho).1 hh))
  | some o =>
    cases hw : Region.wanted o (yielded ops a.tmps) with
    | true => exact (lOp_want ho hw).2 (loose_mono h ((lOp_want ho hw).1 hh))
    | false => exact (lOp_skip ho hw).2 (h _ ((lOp_skip ho hw).1 hh))

/-- Whatever order is picked from here on. -/
def wpAnyL (P : Program) (md : Region.Mode) (ops : Array Oper) (C : World → Prop) (cv : Nat → Option Value) (Q : Act → Prop) : Nat → Array Bool → Act → Prop
  | 0, listed, a => Region.ready md ops listed = [] ∧ Q a
  | fuel + 1, listed, a =>
    (Region.ready md ops listed = [] → Q a) ∧
    ∀ i ∈ Region.ready md ops listed, lOp P ops C cv i (wpAnyL P md ops C cv Q fuel (listed.setIfInBounds i true)) a

theorem wp_of_loose {o : Oper} {a : Act} {c : Option Value} {K : Act → Prop} {K' : Act → World → Prop} {Q' : Exit → Act → World → Prop} {w : World} (hw : C w) (h : ∀ a w', C w' → K a → K' a w')
    (hh : loose P o a C c K) : o.wp P a w K' Q' := by
  obtain ⟨v, h1, h2⟩ := hh w hw
  unfold gives at h1
  unfold Oper.wp
  generalize (execOp a.eval o).run P w = r at *
  cases r with
  | ok n w' =>
    cases n <;> simp only [upon] at h1 <;> simp only [Oper.upon]
    case value u =>
      obtain ⟨e1, e2⟩ := h1
      rw [e2]
      exact h _ _ e1 h2
    case skip =>
      obtain ⟨e1, e2⟩ := h1
      rw [e2]
      exact h _ _ e1 h2
    case enter f args =>
      obtain ⟨e1, _, hc⟩ := h1
      rw [e1]
      exact hc.mono fun e w'' ⟨he, hw''⟩ => by subst he; exact h _ _ hw'' h2
  | halt x w' => simp only [upon] at h1

theorem wpOp_of_lOp {i : Nat} {a : Act} {K : Act → Prop} {K' : Act → World → Prop} {Q' : Exit → Act → World → Prop} {w : World} (hC : C w) (h : ∀ a w', C w' → K a → K' a w')
    (hh : lOp P ops C cv i K a) : wpOp P ops Q' i K' a w := by
  unfold wpOp
  split
  · rename_i ho; exact h _ _ hC ((lOp_none ho).1 hh)
  · rename_i o ho
    split
    · rename_i hw; exact .inl (wp_of_loose hC h ((lOp_want ho hw).1 hh))
    · rename_i hw; exact h _ _ hC ((lOp_skip ho (by simpa using hw)).1 hh)

theorem wpAny_of_loose {Q : Act → Prop} {Q' : Exit → Act → World → Prop} (hQ : ∀ a w, C w → Q a → Q' .normal a w) : ∀ (fuel : Nat) (listed : Array Bool) (a : Act) (w : World), C w →
    wpAnyL P md ops C cv Q fuel listed a → wpAny P md ops Q' fuel listed a w
  | 0, _, _, _, hw, h => ⟨h.1, hQ _ _ hw h.2⟩
  | fuel + 1, _, _, _, hw, h => ⟨fun h0 => hQ _ _ hw (h.1 h0), fun i hi => wpOp_of_lOp hw (fun a' w' hw' => wpAny_of_loose hQ fuel _ a' w' hw') (h.2 i hi)⟩

/-- An operation that may come up now may be taken first: every other one that has not come up either waits for it or is apart from it. 'S': what may stand behind it. -/
theorem wpAnyL_first {w0 : World} (hC0 : C w0) {Q : Act → Prop} {i : Nat} {oi : Oper} {S : Value → Prop} (hi : ops[i]? = some oi) (hsel : ∀ (j : Nat) (o : Oper) cs b, ops[j]? = some o → o.op ≠ .select cs b) :
    ∀ (fuel : Nat) (listed : Array Bool) (a : Act),
      (∀ j oj, ops[j]? = some oj → j ≠ i → listed.getD j true = false → (∀ e ∈ oj.after, Region.binds md e = true → e.on ≠ i) → oi.apart ops oj = true) →
      i ∈ Region.ready md ops listed → Region.wanted oi (yielded ops a.tmps) = true → (∀ w, C w → ∃ v, gives P oi a C (cv i) w v ∧ S v) →
      (∀ v, S v → wpAnyL P md ops C cv Q fuel (listed.setIfInBounds i true) (a.put oi.dst v)) → wpAnyL P md ops C cv Q (fuel + 1) listed a := by
  intro fuel
  induction fuel with
  | zero =>
    intro listed a _ hr hwi hy H
    obtain ⟨v0, _, hv0⟩ := hy w0 hC0
    refine ⟨fun h => (by rw [h] at hr; cases hr), fun j hj => ?_⟩
    by_cases hji : j = i
    · subst hji
      exact (lOp_want hi hwi).2 fun w hw => let ⟨v, g, s⟩ := hy w hw; ⟨v, g, H v s⟩
    · have := ready_mono hj hji
      rw [(H v0 hv0).1] at this
      cases this
  | succ fuel ih =>
    intro listed a hfree hr hwi hy H
    obtain ⟨v0, _, hv0⟩ := hy w0 hC0
    refine ⟨fun h => (by rw [h] at hr; cases hr), fun j hj => ?_⟩
    by_cases hji : j = i
    · subst hji
      exact (lOp_want hi hwi).2 fun w hw => let ⟨v, g, s⟩ := hy w hw; ⟨v, g, H v s⟩
    · obtain ⟨hjun, oj, hoj, hall⟩ := mem_ready.1 hj
      have hnot : ∀ e ∈ oj.after, Region.binds md e = true → e.on ≠ i := fun e he hb heq => by
        have h1 := hall e he hb
        have h0 := (mem_ready.1 hr).1
        rw [heq] at h1
        rcases Nat.lt_or_ge i listed.size with h' | h'
        · simp [h'] at h0 h1; rw [h0] at h1; cases h1
        · simp [Array.getElem?_eq_none h'] at h1
      have hap := hfree j oj hoj hji hjun hnot
      obtain ⟨h1, h2, h3⟩ := Oper.apart_spec hap
      have hsi := fun cs b => hsel i oi cs b hi
      have hsj := fun cs b => hsel j oj cs b hoj
      have hfree' : ∀ k ok, ops[k]? = some ok → k ≠ i → (listed.setIfInBounds j true).getD k true = false →
          (∀ e ∈ ok.after, Region.binds md e = true → e.on ≠ i) → oi.apart ops ok = true := fun k ok hk hki hun hno => by
        refine hfree k ok hk hki ?_ hno
        by_cases hjk : j = k
        · subst hjk; exact hjun
        · rw [getD_set_ne true hjk] at hun; exact hun
      have step : ∀ v, S v → lOp P ops C cv j (wpAnyL P md ops C cv Q fuel ((listed.setIfInBounds i true).setIfInBounds j true)) (a.put oi.dst v) := fun v hv => (H v hv).2 j (ready_mono hj hji)
      have keepw : ∀ u, Region.wanted oi (yielded ops (a.put oj.dst u).tmps) = true := fun u => by rw [wanted_put oi a oj.dst u h3]; exact hwi
      have keepg : ∀ u w, C w → ∃ v, gives P oi (a.put oj.dst u) C (cv i) w v ∧ S v := fun u w hw => by
        obtain ⟨v, g, s⟩ := hy w hw
        refine ⟨v, ?_, s⟩
        unfold gives at *
        rwa [execOp_put oi hsi a oj.dst u h3]
      cases hwj : Region.wanted oj (yielded ops a.tmps) with
      | true =>
        have hwj' : ∀ v, Region.wanted oj (yielded ops (a.put oi.dst v).tmps) = true := fun v => by rw [wanted_put oj a oi.dst v h1]; exact hwj
        refine (lOp_want hoj hwj).2 fun w hw => ?_
        have same : ∀ v u, gives P oj (a.put oi.dst v) C (cv j) w u → gives P oj a C (cv j) w u := fun v u g => by
          unfold gives at *
          rwa [execOp_put oj hsj a oi.dst v h1] at g
        obtain ⟨u, gu, _⟩ := (lOp_want hoj (hwj' v0)).1 (step v0 hv0) w hw
        refine ⟨u, same _ _ gu, ih (listed.setIfInBounds j true) _ hfree' (ready_mono hr (Ne.symm hji)) (keepw u) (keepg u) fun v hv => ?_⟩
        obtain ⟨u', gu', n⟩ := (lOp_want hoj (hwj' v)).1 (step v hv) w hw
        obtain rfl : u = u' := gives_one (same _ _ gu) (same _ _ gu')
        rw [Array.setIfInBounds_comm _ _ hji, ← Act.put_comm a v u h2]
        exact n
      | false =>
        have hwj' : ∀ v, Region.wanted oj (yielded ops (a.put oi.dst v).tmps) = false := fun v => by rw [wanted_put oj a oi.dst v h1]; exact hwj
        refine (lOp_skip hoj hwj).2 (ih (listed.setIfInBounds j true) _ hfree' (ready_mono hr (Ne.symm hji)) (keepw _) (keepg _) fun v hv => ?_)
        have n := (lOp_skip hoj (hwj' v)).1 (step v hv)
        rw [Array.setIfInBounds_comm _ _ hji, ← Act.put_comm a v undef h2]
        exact n

/-- The same for an operation that is passed over. -/
theorem wpAnyL_first_skip {Q : Act → Prop} {i : Nat} {oi : Oper} (hi : ops[i]? = some oi) (hsel : ∀ (j : Nat) (o : Oper) cs b, ops[j]? = some o → o.op ≠ .select cs b) :
    ∀ (fuel : Nat) (listed : Array Bool) (a : Act),
      (∀ j oj, ops[j]? = some oj → j ≠ i → listed.getD j true = false → (∀ e ∈ oj.after, Region.binds md e = true → e.on ≠ i) → oi.apart ops oj = true) →
      i ∈ Region.ready md ops listed → Region.wanted oi (yielded ops a.tmps) = false →
      wpAnyL P md ops C cv Q fuel (listed.setIfInBounds i true) (a.put oi.dst undef) → wpAnyL P md ops C cv Q (fuel + 1) listed a := by
  intro fuel
  induction fuel with
  | zero =>
    intro listed a _ hr hwi H
    refine ⟨fun h => (by rw [h] at hr; cases hr), fun j hj => ?_⟩
    by_cases hji : j = i
    · subst hji; exact (lOp_skip hi hwi).2 H
    · have := ready_mono hj hji
      rw [H.1] at this
      cases this
  | succ fuel ih =>
    intro listed a hfree hr hwi H
    refine ⟨fun h => (by rw [h] at hr; cases hr), fun j hj => ?_⟩
    by_cases hji : j = i
    · subst hji; exact (lOp_skip hi hwi).2 H
    · obtain ⟨hjun, oj, hoj, hall⟩ := mem_ready.1 hj
      have hnot : ∀ e ∈ oj.after, Region.binds md e = true → e.on ≠ i := fun e he hb heq => by
        have h1 := hall e he hb
        have h0 := (mem_ready.1 hr).1
        rw [heq] at h1
        rcases Nat.lt_or_ge i listed.size with h' | h'
        · simp [h'] at h0 h1; rw [h0] at h1; cases h1
        · simp [Array.getElem?_eq_none h'] at h1
      have hap := hfree j oj hoj hji hjun hnot
      obtain ⟨h1, h2, h3⟩ := Oper.apart_spec hap
      have hsj := fun cs b => hsel j oj cs b hoj
      have hfree' : ∀ k ok, ops[k]? = some ok → k ≠ i → (listed.setIfInBounds j true).getD k true = false →
          (∀ e ∈ ok.after, Region.binds md e = true → e.on ≠ i) → oi.apart ops ok = true := fun k ok hk hki hun hno => by
        refine hfree k ok hk hki ?_ hno
        by_cases hjk : j = k
        · subst hjk; exact hjun
        · rw [getD_set_ne true hjk] at hun; exact hun
      have step := H.2 j (ready_mono hj hji)
      have keepw : ∀ u, Region.wanted oi (yielded ops (a.put oj.dst u).tmps) = false := fun u => by rw [wanted_put oi a oj.dst u h3]; exact hwi
      cases hwj : Region.wanted oj (yielded ops a.tmps) with
      | true =>
        have hwj' : Region.wanted oj (yielded ops (a.put oi.dst undef).tmps) = true := by rw [wanted_put oj a oi.dst undef h1]; exact hwj
        refine (lOp_want hoj hwj).2 fun w hw => ?_
        obtain ⟨u, gu, n⟩ := (lOp_want hoj hwj').1 step w hw
        refine ⟨u, ?_, ih (listed.setIfInBounds j true) _ hfree' (ready_mono hr (Ne.symm hji)) (keepw u) ?_⟩
        · unfold gives at *
          rwa [execOp_put oj hsj a oi.dst undef h1] at gu
        · rw [Array.setIfInBounds_comm _ _ hji, ← Act.put_comm a undef u h2]
          exact n
      | false =>
        have hwj' : Region.wanted oj (yielded ops (a.put oi.dst undef).tmps) = false := by rw [wanted_put oj a oi.dst undef h1]; exact hwj
        refine (lOp_skip hoj hwj).2 (ih (listed.setIfInBounds j true) _ hfree' (ready_mono hr (Ne.symm hji)) (keepw _) ?_)
        have n := (lOp_skip hoj hwj').1 step
        rw [Array.setIfInBounds_comm _ _ hji, ← Act.put_comm a undef undef h2]
        exact n

theorem wpAnyL_lex {w0 : World} (hC0 : C w0) {Q : Act → Prop} (hs : Region.noSelect ops = true) : ∀ (l : List Oper) (k : Nat) (listed : Array Bool) (a : Act), (∀ j, l[j]? = ops[k + j]?) →
    Region.lexFrom md ops l.length k listed = true → wpL P ops C cv Q k l a → wpAnyL P md ops C cv Q l.length listed a
  | [], _, _, _, _, hB, h => ⟨by simpa [Region.lexFrom] using hB, h⟩
  | o :: l, k, listed, a, hl, hB, h => by
    have h0 : ops[k]? = some o := by simpa using (hl 0).symm
    have hl' : ∀ j, l[j]? = ops[k + 1 + j]? := fun j => by have := hl (j + 1); simpa [Nat.add_assoc, Nat.add_comm 1 j] using this
    simp only [List.length_cons, Region.lexFrom, Bool.and_eq_true] at hB
    obtain ⟨⟨hr, hf⟩, hB'⟩ := hB
    unfold wpL at h
    by_cases hw : Region.wanted o (yielded ops a.tmps) = true
    · rw [if_pos hw] at h
      exact wpAnyL_first (S := fun v => wpL P ops C cv Q (k + 1) l (a.put o.dst v)) hC0 h0 (Region.noSelect_spec hs) l.length listed a (Region.free_spec h0 hf) (by simpa using hr) hw h
        fun v hv => wpAnyL_lex hC0 hs l (k + 1) _ _ hl' hB' hv
    · rw [if_neg hw] at h
      exact wpAnyL_first_skip h0 (Region.noSelect_spec hs) l.length listed a (Region.free_spec h0 hf) (by simpa using hr) (by simpa using hw)
        (wpAnyL_lex hC0 hs l (k + 1) _ _ hl' hB' h)

/-- One walk in the text's order serves every order. -/
theorem wp_region_loose {id : Nat} {Q : Exit → Act → World → Prop} {a : Act} {w : World} {l : List Oper} (cv : Nat → Option Value) (hm : P.follows .mixedOrders = true) (hB : Region.lexB .any l.toArray = true)
    (h : wpL P l.toArray (fun w' => ∃ n, w' = w.drewN n) cv (fun a' => ∀ w', (∃ n, w' = w.drewN n) → Q .normal a' w') 0 l a) : (Code.region id l.toArray true).wp P Q a w := by
  simp only [Region.lexB, Bool.and_eq_true] at hB
  have hC : (fun w' => ∃ n, w' = w.drewN n) { w with drawn := w.drawn + 1 } := ⟨1, rfl⟩
  refine wp_region_any hm (wpAny_of_loose (Q := fun a' => ∀ w', (∃ n, w' = w.drewN n) → Q .normal a' w') (cv := cv) (fun _ w' hw' h => h w' hw') _ _ _ _ hC ?_)
  have := wpAnyL_lex (C := fun w' => ∃ n, w' = w.drewN n) (cv := cv) (md := .any) hC hB.1 l 0 (Array.replicate l.toArray.size false) a (by simp) (by simpa using hB.2) h
  simpa using this

theorem run_v {s : Sem Value} {w w' : World} {f : FuncId} {args : Array Value} : (do pure (Next.value (← s)) : Sem Next).run P w ≠ .ok (.enter f args) w' := by
  intro h
  rw [Sem.run_bind] at h
  cases hs : s.run P w <;> rw [hs] at h <;> simp [Result.andThen] at h

theorem run_u {s : Sem Unit} {w w' : World} {f : FuncId} {args : Array Value} : (do s; pure Next.skip : Sem Next).run P w ≠ .ok (.enter f args) w' := by
  intro h
  rw [Sem.run_bind] at h
  cases hs : s.run P w <;> rw [hs] at h <;> simp [Result.andThen] at h

/-- Operations that enter no function, whatever they are given. -/
def still : Op → Bool
  | .move _ | .assign _ | .load .. | .binOp .. | .unOp .. | .convert .. | .fieldAddr .. | .field .. | .indexAddr .. | .index .. | .pick .. | .slice .. | .build .. | .extract .. => true
  | .call c => match c.callee with
    | .builtin .len | .builtin .cap | .builtin .max | .builtin .min | .builtin .real | .builtin .imag | .builtin .complex => true
    | _ => false
  | _ => false

theorem no_enter {o : Oper} {ρ : Operand → Value} (h : still o.op = true) (w : World) (f : FuncId) (args : Array Value) (w' : World) : (execOp ρ o).run P w ≠ .ok (.enter f args) w' := by
  unfold execOp
  cases ho : o.op <;> rw [ho] at h <;> simp only [still, Bool.false_eq_true] at h <;> simp only []
  case call c =>
    split at h
    all_goals first | (cases h; done) | skip
    all_goals
      rename_i hcal
      simp only [resolve, hcal, Sem.run_bind, Sem.run_pure, Result.andThen, invoke, builtin]
      intro h'
      split at h' <;> simp at h'
  case move x => simp
  case assign x => simp
  case pick c x y =>
    intro h
    rw [Sem.run_bind] at h
    cases hs : (asBool (ρ c)).run P w <;> rw [hs] at h <;> simp [Result.andThen] at h
  all_goals exact run_v

/-- An operation that is quiet is loose. -/
theorem of_quiet {o : Oper} {a : Act} {K : Act → Prop} {c : Option Value} (hs : still o.op = true) (h : o.quiet P a C K) : loose P o a C c K := by
  obtain ⟨v, h1, h2⟩ := h
  intro w hw
  refine ⟨v, ?_, h2⟩
  have h3 := h1 w hw
  have h4 := no_enter (P := P) (ρ := a.eval) hs w
  unfold Oper.quietAt at h3
  unfold gives
  generalize (execOp a.eval o).run P w = r at *
  cases r with
  | ok n w' =>
    cases n <;> simp only [Oper.quietUpon] at h3 <;> simp only [upon]
    case value u => exact ⟨h3.1 ▸ hw, h3.2⟩
    case skip => exact ⟨h3.1 ▸ hw, h3.2.symm⟩
    case enter f args => exact (h4 _ _ _ rfl).elim
  | halt x w' => simp only [Oper.quietUpon] at h3

theorem nilCheck {o : Oper} {a : Act} {K : Act → Prop} {c : Option Value} (x : Operand) {p : Addr} (ho : o.op = .nilCheck x) (hx : a.eval x = .pointer (some p)) (hk : K (a.put o.dst (.pointer (some p)))) : loose P o a C c K := by
  intro w hw
  refine ⟨.pointer (some p), ?_, hk⟩
  unfold gives execOp
  rw [ho]
  simp only [hx]
  exact ⟨hw, rfl⟩

theorem call {o : Oper} {a : Act} {K : Act → Prop} {v : Value} (f : FuncId) (args : Array Value) (hr : ∀ w, (execOp a.eval o).run P w = .ok (.enter f args) w) (hc : ∀ w, C w → Calls P f args w (fun e w' => e = .returned v ∧ C w'))
    (hk : K (a.put o.dst v)) : loose P o a C (some v) K := by
  intro w hw
  refine ⟨v, ?_, hk⟩
  unfold gives
  rw [hr w]
  exact ⟨rfl, rfl, hc w hw⟩

end
end Go.Proofs.Ytdnmimfichijgaa.Loose
