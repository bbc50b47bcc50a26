/- Texts of the graph seat, in one file: Loose, Fl, Fw, Hp, Rnd, Flo, Flc, Fd, Rd, Opn, Mixed, App. -/
import Derived.Deep.Quiet
import GoSem.Core.Float
import GoSem.Op.Unary
import Derived.WalkKit
import Derived.WalkLawsBesides
import Derived.BigQuiet
import Derived.Deep.Draws
import Ieee.Arith
import Derived.Maps.AppendAt
import Derived.Deep.Slices
import Derived.ChangeArms
import Derived.ChangeOld
import Derived.ProofKit
import Derived.SizedLaws
import Derived.Laws.OwnMore
/- A region that draws its order and whose operations may draw what they answer (a NaN's bits): one walk in the text's order serves every order. Plain laws over any program. -/
namespace Go.Proofs.Ytdliilmnfbgplaa.Loose
open Go

section
variable {P : Program} {ops : Array Oper} {md : Region.Mode} {C : World → Prop} {cv : Nat → Option Value}

/-- What an operation gives in a world: a value, and a world of the class; a call: the value that was named ahead. -/
def upon (P : Program) (C : World → Prop) (c : Option Value) (w : World) (v : Value) : Result Next → Prop
  | .ok (.value u) w' => C w' ∧ u = v
  | .ok .skip w' => C w' ∧ undef = v
  | .ok (.enter f args) w' => w' = w ∧ c = some v ∧ Calls P f args w (fun e w'' => e = .returned v ∧ C w'')
  | _ => False

def gives (P : Program) (o : Oper) (a : Act) (C : World → Prop) (c : Option Value) (w : World) (v : Value) : Prop := upon P C c w v ((execOp a.eval o).run P w)

theorem gives_one {o : Oper} {a : Act} {c : Option Value} {w : World} {v u : Value} (h : gives P o a C c w v) (k : gives P o a C c w u) : v = u := by
  unfold gives at h k
  generalize (execOp a.eval o).run P w = r at h k
  cases r with
  | ok n w' =>
    cases n <;> simp only [upon] at h k
    case value x => exact h.2.symm.trans k.2
    case skip => exact h.2.symm.trans k.2
    case enter f args =>
      have := h.2.1.symm.trans k.2.1
      exact Option.some.inj this
  | halt x w' => simp only [upon] at h

/-- One operation: whatever it gives, on we go. -/
def loose (P : Program) (o : Oper) (a : Act) (C : World → Prop) (c : Option Value) (next : Act → Prop) : Prop := ∀ w, C w → ∃ v, gives P o a C c w v ∧ next (a.put o.dst v)

/-- The walk in the text's order; 'k': the number of the first operation. -/
def wpL (P : Program) (ops : Array Oper) (C : World → Prop) (cv : Nat → Option Value) (Q : Act → Prop) : Nat → List Oper → Act → Prop
  | _, [], a => Q a
  | k, o :: rest, a => if Region.wanted o (yielded ops a.tmps) then loose P o a C (cv k) (wpL P ops C cv Q (k + 1) rest) else wpL P ops C cv Q (k + 1) rest (a.put o.dst undef)

theorem wpL_nil {Q : Act → Prop} {a : Act} {k : Nat} (h : Q a) : wpL P ops C cv Q k [] a := h

theorem wpL_want {Q : Act → Prop} {a : Act} {k : Nat} {o : Oper} {rest : List Oper} (hw : Region.wanted o (yielded ops a.tmps) = true)
    (h : ∀ K : Act → Prop, (∀ a, wpL P ops C cv Q (k + 1) rest a → K a) → loose P o a C (cv k) K) : wpL P ops C cv Q k (o :: rest) a := by
  unfold wpL
  rw [if_pos hw]
  exact h _ fun _ h => h

theorem wpL_skip {Q : Act → Prop} {a : Act} {k : Nat} {o : Oper} {rest : List Oper} (hw : Region.wanted o (yielded ops a.tmps) = false)
    (h : wpL P ops C cv Q (k + 1) rest (a.put o.dst undef)) : wpL P ops C cv Q k (o :: rest) a := by
  unfold wpL
  rw [if_neg (by rw [hw]; exact Bool.false_ne_true)]
  exact h

def lOp (P : Program) (ops : Array Oper) (C : World → Prop) (cv : Nat → Option Value) (i : Nat) (K : Act → Prop) (a : Act) : Prop :=
  match ops[i]? with
  | none => K a
  | some o => if Region.wanted o (yielded ops a.tmps) then loose P o a C (cv i) K else K (a.put o.dst undef)

theorem lOp_none {i : Nat} {K : Act → Prop} {a : Act} (h : ops[i]? = none) : lOp P ops C cv i K a ↔ K a := by unfold lOp; simp [h]
theorem lOp_want {i : Nat} {o : Oper} {K : Act → Prop} {a : Act} (h : ops[i]? = some o) (hw : Region.wanted o (yielded ops a.tmps) = true) : lOp P ops C cv i K a ↔ loose P o a C (cv i) K := by
  unfold lOp; simp [h, hw]
theorem lOp_skip {i : Nat} {o : Oper} {K : Act → Prop} {a : Act} (h : ops[i]? = some o) (hw : Region.wanted o (yielded ops a.tmps) = false) : lOp P ops C cv i K a ↔ K (a.put o.dst undef) := by
  unfold lOp; simp [h, hw]

theorem loose_mono {o : Oper} {a : Act} {c : Option Value} {K K' : Act → Prop} (h : ∀ a, K a → K' a) (hh : loose P o a C c K) : loose P o a C c K' :=
  fun w hw => let ⟨v, h1, h2⟩ := hh w hw; ⟨v, h1, h _ h2⟩

theorem lOp_mono {i : Nat} {a : Act} {K K' : Act → Prop} (h : ∀ a, K a → K' a) (hh : lOp P ops C cv i K a) : lOp P ops C cv i K' a := by
  cases ho : ops[i]? with
  | none => exact (lOp_none ho).2 (h _ ((lOp_none ho).1 hh))
  | some o =>
    cases hw : Region.wanted o (yielded ops a.tmps) with
    | true => exact (lOp_want ho hw).2 (loose_mono h ((lOp_want ho hw).1 hh))
    | false => exact (lOp_skip ho hw).2 (h _ ((lOp_skip ho hw).1 hh))

/-- Whatever order is picked from here on. -/
def wpAnyL (P : Program) (md : Region.Mode) (ops : Array Oper) (C : World → Prop) (cv : Nat → Option Value) (Q : Act → Prop) : Nat → Array Bool → Act → Prop
  | 0, listed, a => Region.ready md ops listed = [] ∧ Q a
  | fuel + 1, listed, a =>
    (Region.ready md ops listed = [] → Q a) ∧
    ∀ i ∈ Region.ready md ops listed, lOp P ops C cv i (wpAnyL P md ops C cv Q fuel (listed.setIfInBounds i true)) a

theorem wp_of_loose {o : Oper} {a : Act} {c : Option Value} {K : Act → Prop} {K' : Act → World → Prop} {Q' : Exit → Act → World → Prop} {w : World} (hw : C w) (h : ∀ a w', C w' → K a → K' a w')
    (hh : loose P o a C c K) : o.wp P a w K' Q' := by
  obtain ⟨v, h1, h2⟩ := hh w hw
  unfold gives at h1
  unfold Oper.wp
  generalize (execOp a.eval o).run P w = r at *
  cases r with
  | ok n w' =>
    cases n <;> simp only [upon] at h1 <;> simp only [Oper.upon]
    case value u =>
      obtain ⟨e1, e2⟩ := h1
      rw [e2]
      exact h _ _ e1 h2
    case skip =>
      obtain ⟨e1, e2⟩ := h1
      rw [e2]
      exact h _ _ e1 h2
    case enter f args =>
      obtain ⟨e1, _, hc⟩ := h1
      rw [e1]
      exact hc.mono fun e w'' ⟨he, hw''⟩ => by subst he; exact h _ _ hw'' h2
  | halt x w' => simp only [upon] at h1

theorem wpOp_of_lOp {i : Nat} {a : Act} {K : Act → Prop} {K' : Act → World → Prop} {Q' : Exit → Act → World → Prop} {w : World} (hC : C w) (h : ∀ a w', C w' → K a → K' a w')
    (hh : lOp P ops C cv i K a) : wpOp P ops Q' i K' a w := by
  unfold wpOp
  split
  · rename_i ho; exact h _ _ hC ((lOp_none ho).1 hh)
  · rename_i o ho
    split
    · rename_i hw; exact .inl (wp_of_loose hC h ((lOp_want ho hw).1 hh))
    · rename_i hw; exact h _ _ hC ((lOp_skip ho (by simpa using hw)).1 hh)

theorem wpAny_of_loose {Q : Act → Prop} {Q' : Exit → Act → World → Prop} (hQ : ∀ a w, C w → Q a → Q' .normal a w) : ∀ (fuel : Nat) (listed : Array Bool) (a : Act) (w : World), C w →
    wpAnyL P md ops C cv Q fuel listed a → wpAny P md ops Q' fuel listed a w
  | 0, _, _, _, hw, h => ⟨h.1, hQ _ _ hw h.2⟩
  | fuel + 1, _, _, _, hw, h => ⟨fun h0 => hQ _ _ hw (h.1 h0), fun i hi => wpOp_of_lOp hw (fun a' w' hw' => wpAny_of_loose hQ fuel _ a' w' hw') (h.2 i hi)⟩

/-- An operation that may come up now may be taken first: every other one that has not come up either waits for it or is apart from it. 'S': what may stand behind it. -/
theorem wpAnyL_first {w0 : World} (hC0 : C w0) {Q : Act → Prop} {i : Nat} {oi : Oper} {S : Value → Prop} (hi : ops[i]? = some oi) (hsel : ∀ (j : Nat) (o : Oper) cs b, ops[j]? = some o → o.op ≠ .select cs b) :
    ∀ (fuel : Nat) (listed : Array Bool) (a : Act),
      (∀ j oj, ops[j]? = some oj → j ≠ i → listed.getD j true = false → (∀ e ∈ oj.after, Region.binds md e = true → e.on ≠ i) → oi.apart ops oj = true) →
      i ∈ Region.ready md ops listed → Region.wanted oi (yielded ops a.tmps) = true → (∀ w, C w → ∃ v, gives P oi a C (cv i) w v ∧ S v) →
      (∀ v, S v → wpAnyL P md ops C cv Q fuel (listed.setIfInBounds i true) (a.put oi.dst v)) → wpAnyL P md ops C cv Q (fuel + 1) listed a := by
  intro fuel
  induction fuel with
  | zero =>
    intro listed a _ hr hwi hy H
    obtain ⟨v0, _, hv0⟩ := hy w0 hC0
    refine ⟨fun h => (by rw [h] at hr; cases hr), fun j hj => ?_⟩
    by_cases hji : j = i
    · subst hji
      exact (lOp_want hi hwi).2 fun w hw => let ⟨v, g, s⟩ := hy w hw; ⟨v, g, H v s⟩
    · have := ready_mono hj hji
      rw [(H v0 hv0).1] at this
      cases this
  | succ fuel ih =>
    intro listed a hfree hr hwi hy H
    obtain ⟨v0, _, hv0⟩ := hy w0 hC0
    refine ⟨fun h => (by rw [h] at hr; cases hr), fun j hj => ?_⟩
    by_cases hji : j = i
    · subst hji
      exact (lOp_want hi hwi).2 fun w hw => let ⟨v, g, s⟩ := hy w hw; ⟨v, g, H v s⟩
    · obtain ⟨hjun, oj, hoj, hall⟩ := mem_ready.1 hj
      have hnot : ∀ e ∈ oj.after, Region.binds md e = true → e.on ≠ i := fun e he hb heq => by
        have h1 := hall e he hb
        have h0 := (mem_ready.1 hr).1
        rw [heq] at h1
        rcases Nat.lt_or_ge i listed.size with h' | h'
        · simp [h'] at h0 h1; rw [h0] at h1; cases h1
        · simp [Array.getElem?_eq_none h'] at h1
      have hap := hfree j oj hoj hji hjun hnot
      obtain ⟨h1, h2, h3⟩ := Oper.apart_spec hap
      have hsi := fun cs b => hsel i oi cs b hi
      have hsj := fun cs b => hsel j oj cs b hoj
      have hfree' : ∀ k ok, ops[k]? = some ok → k ≠ i → (listed.setIfInBounds j true).getD k true = false →
          (∀ e ∈ ok.after, Region.binds md e = true → e.on ≠ i) → oi.apart ops ok = true := fun k ok hk hki hun hno => by
        refine hfree k ok hk hki ?_ hno
        by_cases hjk : j = k
        · subst hjk; exact hjun
        · rw [getD_set_ne true hjk] at hun; exact hun
      have step : ∀ v, S v → lOp P ops C cv j (wpAnyL P md ops C cv Q fuel ((listed.setIfInBounds i true).setIfInBounds j true)) (a.put oi.dst v) := fun v hv => (H v hv).2 j (ready_mono hj hji)
      have keepw : ∀ u, Region.wanted oi (yielded ops (a.put oj.dst u).tmps) = true := fun u => by rw [wanted_put oi a oj.dst u h3]; exact hwi
      have keepg : ∀ u w, C w → ∃ v, gives P oi (a.put oj.dst u) C (cv i) w v ∧ S v := fun u w hw => by
        obtain ⟨v, g, s⟩ := hy w hw
        refine ⟨v, ?_, s⟩
        unfold gives at *
        rwa [execOp_put oi hsi a oj.dst u h3]
      cases hwj : Region.wanted oj (yielded ops a.tmps) with
      | true =>
        have hwj' : ∀ v, Region.wanted oj (yielded ops (a.put oi.dst v).tmps) = true := fun v => by rw [wanted_put oj a oi.dst v h1]; exact hwj
        refine (lOp_want hoj hwj).2 fun w hw => ?_
        have same : ∀ v u, gives P oj (a.put oi.dst v) C (cv j) w u → gives P oj a C (cv j) w u := fun v u g => by
          unfold gives at *
          rwa [execOp_put oj hsj a oi.dst v h1] at g
        obtain ⟨u, gu, _⟩ := (lOp_want hoj (hwj' v0)).1 (step v0 hv0) w hw
        refine ⟨u, same _ _ gu, ih (listed.setIfInBounds j true) _ hfree' (ready_mono hr (Ne.symm hji)) (keepw u) (keepg u) fun v hv => ?_⟩
        obtain ⟨u', gu', n⟩ := (lOp_want hoj (hwj' v)).1 (step v hv) w hw
        obtain rfl : u = u' := gives_one (same _ _ gu) (same _ _ gu')
        rw [Array.setIfInBounds_comm _ _ hji, ← Act.put_comm a v u h2]
        exact n
      | false =>
        have hwj' : ∀ v, Region.wanted oj (yielded ops (a.put oi.dst v).tmps) = false := fun v => by rw [wanted_put oj a oi.dst v h1]; exact hwj
        refine (lOp_skip hoj hwj).2 (ih (listed.setIfInBounds j true) _ hfree' (ready_mono hr (Ne.symm hji)) (keepw _) (keepg _) fun v hv => ?_)
        have n := (lOp_skip hoj (hwj' v)).1 (step v hv)
        rw [Array.setIfInBounds_comm _ _ hji, ← Act.put_comm a v undef h2]
        exact n

/-- The same for an operation that is passed over. -/
theorem wpAnyL_first_skip {Q : Act → Prop} {i : Nat} {oi : Oper} (hi : ops[i]? = some oi) (hsel : ∀ (j : Nat) (o : Oper) cs b, ops[j]? = some o → o.op ≠ .select cs b) :
    ∀ (fuel : Nat) (listed : Array Bool) (a : Act),
      (∀ j oj, ops[j]? = some oj → j ≠ i → listed.getD j true = false → (∀ e ∈ oj.after, Region.binds md e = true → e.on ≠ i) → oi.apart ops oj = true) →
      i ∈ Region.ready md ops listed → Region.wanted oi (yielded ops a.tmps) = false →
      wpAnyL P md ops C cv Q fuel (listed.setIfInBounds i true) (a.put oi.dst undef) → wpAnyL P md ops C cv Q (fuel + 1) listed a := by
  intro fuel
  induction fuel with
  | zero =>
    intro listed a _ hr hwi H
    refine ⟨fun h => (by rw [h] at hr; cases hr), fun j hj => ?_⟩
    by_cases hji : j = i
    · subst hji; exact (lOp_skip hi hwi).2 H
    · have := ready_mono hj hji
      rw [H.1] at this
      cases this
  | succ fuel ih =>
    intro listed a hfree hr hwi H
    refine ⟨fun h => (by rw [h] at hr; cases hr), fun j hj => ?_⟩
    by_cases hji : j = i
    · subst hji; exact (lOp_skip hi hwi).2 H
    · obtain ⟨hjun, oj, hoj, hall⟩ := mem_ready.1 hj
      have hnot : ∀ e ∈ oj.after, Region.binds md e = true → e.on ≠ i := fun e he hb heq => by
        have h1 := hall e he hb
        have h0 := (mem_ready.1 hr).1
        rw [heq] at h1
        rcases Nat.lt_or_ge i listed.size with h' | h'
        · simp [h'] at h0 h1; rw [h0] at h1; cases h1
        · simp [Array.getElem?_eq_none h'] at h1
      have hap := hfree j oj hoj hji hjun hnot
      obtain ⟨h1, h2, h3⟩ := Oper.apart_spec hap
      have hsj := fun cs b => hsel j oj cs b hoj
      have hfree' : ∀ k ok, ops[k]? = some ok → k ≠ i → (listed.setIfInBounds j true).getD k true = false →
          (∀ e ∈ ok.after, Region.binds md e = true → e.on ≠ i) → oi.apart ops ok = true := fun k ok hk hki hun hno => by
        refine hfree k ok hk hki ?_ hno
        by_cases hjk : j = k
        · subst hjk; exact hjun
        · rw [getD_set_ne true hjk] at hun; exact hun
      have step := H.2 j (ready_mono hj hji)
      have keepw : ∀ u, Region.wanted oi (yielded ops (a.put oj.dst u).tmps) = false := fun u => by rw [wanted_put oi a oj.dst u h3]; exact hwi
      cases hwj : Region.wanted oj (yielded ops a.tmps) with
      | true =>
        have hwj' : Region.wanted oj (yielded ops (a.put oi.dst undef).tmps) = true := by rw [wanted_put oj a oi.dst undef h1]; exact hwj
        refine (lOp_want hoj hwj).2 fun w hw => ?_
        obtain ⟨u, gu, n⟩ := (lOp_want hoj hwj').1 step w hw
        refine ⟨u, ?_, ih (listed.setIfInBounds j true) _ hfree' (ready_mono hr (Ne.symm hji)) (keepw u) ?_⟩
        · unfold gives at *
          rwa [execOp_put oj hsj a oi.dst undef h1] at gu
        · rw [Array.setIfInBounds_comm _ _ hji, ← Act.put_comm a undef u h2]
          exact n
      | false =>
        have hwj' : Region.wanted oj (yielded ops (a.put oi.dst undef).tmps) = false := by rw [wanted_put oj a oi.dst undef h1]; exact hwj
        refine (lOp_skip hoj hwj).2 (ih (listed.setIfInBounds j true) _ hfree' (ready_mono hr (Ne.symm hji)) (keepw _) ?_)
        have n := (lOp_skip hoj hwj').1 step
        rw [Array.setIfInBounds_comm _ _ hji, ← Act.put_comm a undef undef h2]
        exact n

theorem wpAnyL_lex {w0 : World} (hC0 : C w0) {Q : Act → Prop} (hs : Region.noSelect ops = true) : ∀ (l : List Oper) (k : Nat) (listed : Array Bool) (a : Act), (∀ j, l[j]? = ops[k + j]?) →
    Region.lexFrom md ops l.length k listed = true → wpL P ops C cv Q k l a → wpAnyL P md ops C cv Q l.length listed a
  | [], _, _, _, _, hB, h => ⟨by simpa [Region.lexFrom] using hB, h⟩
  | o :: l, k, listed, a, hl, hB, h => by
    have h0 : ops[k]? = some o := by simpa using (hl 0).symm
    have hl' : ∀ j, l[j]? = ops[k + 1 + j]? := fun j => by have := hl (j + 1); simpa [Nat.add_assoc, Nat.add_comm 1 j] using this
    simp only [List.length_cons, Region.lexFrom, Bool.and_eq_true] at hB
    obtain ⟨⟨hr, hf⟩, hB'⟩ := hB
    unfold wpL at h
    by_cases hw : Region.wanted o (yielded ops a.tmps) = true
    · rw [if_pos hw] at h
      exact wpAnyL_first (S := fun v => wpL P ops C cv Q (k + 1) l (a.put o.dst v)) hC0 h0 (Region.noSelect_spec hs) l.length listed a (Region.free_spec h0 hf) (by simpa using hr) hw h
        fun v hv => wpAnyL_lex hC0 hs l (k + 1) _ _ hl' hB' hv
    · rw [if_neg hw] at h
      exact wpAnyL_first_skip h0 (Region.noSelect_spec hs) l.length listed a (Region.free_spec h0 hf) (by simpa using hr) (by simpa using hw)
        (wpAnyL_lex hC0 hs l (k + 1) _ _ hl' hB' h)

/-- One walk in the text's order serves every order. -/
theorem wp_region_loose {id : Nat} {Q : Exit → Act → World → Prop} {a : Act} {w : World} {l : List Oper} (cv : Nat → Option Value) (hm : P.follows .mixedOrders = true) (hB : Region.lexB .any l.toArray = true)
    (h : wpL P l.toArray (fun w' => ∃ n, w' = w.drewN n) cv (fun a' => ∀ w', (∃ n, w' = w.drewN n) → Q .normal a' w') 0 l a) : (Code.region id l.toArray true).wp P Q a w := by
  simp only [Region.lexB, Bool.and_eq_true] at hB
  have hC : (fun w' => ∃ n, w' = w.drewN n) { w with drawn := w.drawn + 1 } := ⟨1, rfl⟩
  refine wp_region_any hm (wpAny_of_loose (Q := fun a' => ∀ w', (∃ n, w' = w.drewN n) → Q .normal a' w') (cv := cv) (fun _ w' hw' h => h w' hw') _ _ _ _ hC ?_)
  have := wpAnyL_lex (C := fun w' => ∃ n, w' = w.drewN n) (cv := cv) (md := .any) hC hB.1 l 0 (Array.replicate l.toArray.size false) a (by simp) (by simpa using hB.2) h
  simpa using this

theorem run_v {s : Sem Value} {w w' : World} {f : FuncId} {args : Array Value} : (do pure (Next.value (← s)) : Sem Next).run P w ≠ .ok (.enter f args) w' := by
  intro h
  rw [Sem.run_bind] at h
  cases hs : s.run P w <;> rw [hs] at h <;> simp [Result.andThen] at h

theorem run_u {s : Sem Unit} {w w' : World} {f : FuncId} {args : Array Value} : (do s; pure Next.skip : Sem Next).run P w ≠ .ok (.enter f args) w' := by
  intro h
  rw [Sem.run_bind] at h
  cases hs : s.run P w <;> rw [hs] at h <;> simp [Result.andThen] at h

/-- Operations that enter no function, whatever they are given. -/
def still : Op → Bool
  | .move _ | .assign _ | .load .. | .binOp .. | .unOp .. | .convert .. | .fieldAddr .. | .field .. | .indexAddr .. | .index .. | .pick .. | .slice .. | .build .. | .extract .. => true
  | .call c => match c.callee with
    | .builtin .len | .builtin .cap | .builtin .max | .builtin .min | .builtin .real | .builtin .imag | .builtin .complex => true
    | _ => false
  | _ => false

theorem no_enter {o : Oper} {ρ : Operand → Value} (h : still o.op = true) (w : World) (f : FuncId) (args : Array Value) (w' : World) : (execOp ρ o).run P w ≠ .ok (.enter f args) w' := by
  unfold execOp
  cases ho : o.op <;> rw [ho] at h <;> simp only [still, Bool.false_eq_true] at h <;> simp only []
  case call c =>
    split at h
    all_goals first | (cases h; done) | skip
    all_goals
      rename_i hcal
      simp only [resolve, hcal, Sem.run_bind, Sem.run_pure, Result.andThen, invoke, builtin]
      intro h'
      split at h' <;> simp at h'
  case move x => simp
  case assign x => simp
  case pick c x y =>
    intro h
    rw [Sem.run_bind] at h
    cases hs : (asBool (ρ c)).run P w <;> rw [hs] at h <;> simp [Result.andThen] at h
  all_goals exact run_v

/-- An operation that is quiet is loose. -/
theorem of_quiet {o : Oper} {a : Act} {K : Act → Prop} {c : Option Value} (hs : still o.op = true) (h : o.quiet P a C K) : loose P o a C c K := by
  obtain ⟨v, h1, h2⟩ := h
  intro w hw
  refine ⟨v, ?_, h2⟩
  have h3 := h1 w hw
  have h4 := no_enter (P := P) (ρ := a.eval) hs w
  unfold Oper.quietAt at h3
  unfold gives
  generalize (execOp a.eval o).run P w = r at *
  cases r with
  | ok n w' =>
    cases n <;> simp only [Oper.quietUpon] at h3 <;> simp only [upon]
    case value u => exact ⟨h3.1 ▸ hw, h3.2⟩
    case skip => exact ⟨h3.1 ▸ hw, h3.2.symm⟩
    case enter f args => exact (h4 _ _ _ rfl).elim
  | halt x w' => simp only [Oper.quietUpon] at h3

theorem nilCheck {o : Oper} {a : Act} {K : Act → Prop} {c : Option Value} (x : Operand) {p : Addr} (ho : o.op = .nilCheck x) (hx : a.eval x = .pointer (some p)) (hk : K (a.put o.dst (.pointer (some p)))) : loose P o a C c K := by
  intro w hw
  refine ⟨.pointer (some p), ?_, hk⟩
  unfold gives execOp
  rw [ho]
  simp only [hx]
  exact ⟨hw, rfl⟩

theorem call {o : Oper} {a : Act} {K : Act → Prop} {v : Value} (f : FuncId) (args : Array Value) (hr : ∀ w, (execOp a.eval o).run P w = .ok (.enter f args) w) (hc : ∀ w, C w → Calls P f args w (fun e w' => e = .returned v ∧ C w'))
    (hk : K (a.put o.dst v)) : loose P o a C (some v) K := by
  intro w hw
  refine ⟨v, ?_, hk⟩
  unfold gives
  rw [hr w]
  exact ⟨rfl, rfl, hc w hw⟩

end
end Go.Proofs.Ytdliilmnfbgplaa.Loose

/- Floats as words: NaNs as one, zeros as one; what addition, subtraction, multiplication and turning the sign do to them. Plain laws, no program in sight. -/
namespace Go.Proofs.Ytdliilmnfbgplaa.Fl
open Ieee

abbrev D : Format := Ieee.double

/-- Is the word no number? -/
def nan (x : Nat) : Bool := (D.read x).isNaN

/-- The one NaN that stands for all. -/
def qn : Nat := 0x7ff8000000000001

/-- A word, all NaNs taken as one. -/
def cn (x : Nat) : Nat := if nan x then qn else x

/-- An operation's answer, all NaNs taken as one. -/
def cno : Option Nat → Nat
  | some r => cn r
  | none => qn

def fadd (x y : Nat) : Nat := cno (D.add x y)
def fsub (x y : Nat) : Nat := cno (D.sub x y)
def fmul (x y : Nat) : Nat := cno (D.mul x y)

theorem nan_qn : nan qn = true := by decide +kernel

theorem cn_qn : cn qn = qn := by unfold cn; rw [nan_qn]; rfl

theorem cn_cn (x : Nat) : cn (cn x) = cn x := by
  unfold cn
  by_cases h : nan x = true
  · simp [h]
  · simp [h]

theorem cn_of_nan {x : Nat} (h : nan x = true) : cn x = qn := by unfold cn; rw [h]; rfl
theorem cn_of_not {x : Nat} (h : nan x = false) : cn x = x := by unfold cn; rw [h]; rfl

theorem read_nan {x : Nat} (h : nan x = true) : ∃ s f, D.read x = .nan s f := by
  unfold nan at h
  cases hd : D.read x with
  | nan s f => exact ⟨s, f, rfl⟩
  | number s m e => rw [hd] at h; simp [Datum.isNaN] at h
  | infinity s => rw [hd] at h; simp [Datum.isNaN] at h

theorem sum_nan_left (s : Bool) (f : Nat) (d : Datum) : Datum.sum (.nan s f) d = none := by cases d <;> rfl
theorem sum_nan_right (s : Bool) (f : Nat) (d : Datum) : Datum.sum d (.nan s f) = none := by cases d <;> rfl
theorem product_nan_left (s : Bool) (f : Nat) (d : Datum) : Datum.product (.nan s f) d = none := by cases d <;> rfl
theorem product_nan_right (s : Bool) (f : Nat) (d : Datum) : Datum.product d (.nan s f) = none := by cases d <;> rfl

theorem add_nan_left {x y : Nat} (h : nan x = true) : D.add x y = none := by
  obtain ⟨s, f, e⟩ := read_nan h
  simp [Format.add, e, sum_nan_left]
theorem add_nan_right {x y : Nat} (h : nan y = true) : D.add x y = none := by
  obtain ⟨s, f, e⟩ := read_nan h
  simp [Format.add, e, sum_nan_right]
theorem sub_nan_left {x y : Nat} (h : nan x = true) : D.sub x y = none := by
  obtain ⟨s, f, e⟩ := read_nan h
  simp [Format.sub, e, sum_nan_left]
theorem sub_nan_right {x y : Nat} (h : nan y = true) : D.sub x y = none := by
  obtain ⟨s, f, e⟩ := read_nan h
  simp [Format.sub, e, Datum.opposite, sum_nan_right]
theorem mul_nan_left {x y : Nat} (h : nan x = true) : D.mul x y = none := by
  obtain ⟨s, f, e⟩ := read_nan h
  simp [Format.mul, e, product_nan_left]
theorem mul_nan_right {x y : Nat} (h : nan y = true) : D.mul x y = none := by
  obtain ⟨s, f, e⟩ := read_nan h
  simp [Format.mul, e, product_nan_right]

theorem cn_cases (x : Nat) : (nan x = true ∧ cn x = qn) ∨ (nan x = false ∧ cn x = x) := by
  cases h : nan x with
  | true => exact .inl ⟨rfl, cn_of_nan h⟩
  | false => exact .inr ⟨rfl, cn_of_not h⟩

theorem add_cn (x y : Nat) : D.add (cn x) (cn y) = D.add x y := by
  rcases cn_cases x with ⟨hx, ex⟩ | ⟨hx, ex⟩ <;> rcases cn_cases y with ⟨hy, ey⟩ | ⟨hy, ey⟩ <;> rw [ex, ey]
  · rw [add_nan_left nan_qn, add_nan_left hx]
  · rw [add_nan_left nan_qn, add_nan_left hx]
  · rw [add_nan_right nan_qn, add_nan_right hy]
theorem sub_cn (x y : Nat) : D.sub (cn x) (cn y) = D.sub x y := by
  rcases cn_cases x with ⟨hx, ex⟩ | ⟨hx, ex⟩ <;> rcases cn_cases y with ⟨hy, ey⟩ | ⟨hy, ey⟩ <;> rw [ex, ey]
  · rw [sub_nan_left nan_qn, sub_nan_left hx]
  · rw [sub_nan_left nan_qn, sub_nan_left hx]
  · rw [sub_nan_right nan_qn, sub_nan_right hy]
theorem mul_cn (x y : Nat) : D.mul (cn x) (cn y) = D.mul x y := by
  rcases cn_cases x with ⟨hx, ex⟩ | ⟨hx, ex⟩ <;> rcases cn_cases y with ⟨hy, ey⟩ | ⟨hy, ey⟩ <;> rw [ex, ey]
  · rw [mul_nan_left nan_qn, mul_nan_left hx]
  · rw [mul_nan_left nan_qn, mul_nan_left hx]
  · rw [mul_nan_right nan_qn, mul_nan_right hy]

theorem fadd_cn (x y : Nat) : fadd (cn x) (cn y) = fadd x y := by unfold fadd; rw [add_cn]
theorem fsub_cn (x y : Nat) : fsub (cn x) (cn y) = fsub x y := by unfold fsub; rw [sub_cn]
theorem fmul_cn (x y : Nat) : fmul (cn x) (cn y) = fmul x y := by unfold fmul; rw [mul_cn]

theorem cn_cno (o : Option Nat) : cn (cno o) = cno o := by
  cases o with
  | none => exact cn_qn
  | some r => exact cn_cn r
theorem cn_fadd (x y : Nat) : cn (fadd x y) = fadd x y := cn_cno _
theorem cn_fsub (x y : Nat) : cn (fsub x y) = fsub x y := cn_cno _
theorem cn_fmul (x y : Nat) : cn (fmul x y) = fmul x y := cn_cno _

theorem fadd_eq {x y x' y' : Nat} (hx : cn x = cn x') (hy : cn y = cn y') : fadd x y = fadd x' y' := by
  rw [← fadd_cn x y, ← fadd_cn x' y', hx, hy]
theorem fsub_eq {x y x' y' : Nat} (hx : cn x = cn x') (hy : cn y = cn y') : fsub x y = fsub x' y' := by
  rw [← fsub_cn x y, ← fsub_cn x' y', hx, hy]
theorem fmul_eq {x y x' y' : Nat} (hx : cn x = cn x') (hy : cn y = cn y') : fmul x y = fmul x' y' := by
  rw [← fmul_cn x y, ← fmul_cn x' y', hx, hy]

/-! zeros as one -/

/-- A datum, its sign dropped where it is nought, all NaNs as one. -/
def z : Datum → Datum
  | .number s m p => .number (if m = 0 then false else s) m p
  | .nan _ _ => .nan false 1
  | .infinity s => .infinity s

/-- What a word stands for, so. -/
def zr (x : Nat) : Datum := z (D.read x)

def zo : Option Nat → Datum
  | some r => zr r
  | none => .nan false 1

theorem zr_qn : zr qn = .nan false 1 := by decide +kernel

theorem zr_nan {x : Nat} (h : nan x = true) : zr x = .nan false 1 := by
  obtain ⟨s, f, e⟩ := read_nan h
  unfold zr
  rw [e]
  rfl

theorem zr_cn (x : Nat) : zr (cn x) = zr x := by
  rcases cn_cases x with ⟨h, e⟩ | ⟨h, e⟩
  · rw [e, zr_qn, zr_nan h]
  · rw [e]

theorem zr_cno (o : Option Nat) : zr (cno o) = zo o := by
  cases o with
  | none => exact zr_qn
  | some r => exact zr_cn r

theorem z_number_zero (s : Bool) (p : Int) : z (.number s 0 p) = .number false 0 p := rfl

/-- A nought that is written reads as nought; all else is written as it is. -/
theorem zr_write {d d' : Datum} (h : z d = z d') (hn : d.isNaN = false) (hn' : d'.isNaN = false) : zr (D.write d) = zr (D.write d') := by
  cases d with
  | nan s f => cases hn
  | infinity s =>
    cases d' with
    | nan s f => cases hn'
    | infinity s' => simp only [z, Datum.infinity.injEq] at h; rw [h]
    | number s' m' p' => simp [z] at h
  | number s m p =>
    cases d' with
    | nan s f => cases hn'
    | infinity s' => simp [z] at h
    | number s' m' p' =>
      simp only [z, Datum.number.injEq] at h
      obtain ⟨h1, rfl, rfl⟩ := h
      by_cases hm : m = 0
      · subst hm
        unfold Format.write Format.nearest
        simp only [if_true]
        cases s <;> cases s' <;> decide +kernel
      · simp only [hm, if_false] at h1
        rw [h1]

theorem zo_write {o o' : Option Datum} (h : o.map z = o'.map z) (hn : ∀ d, o = some d → d.isNaN = false) (hn' : ∀ d, o' = some d → d.isNaN = false) : zo (o.map D.write) = zo (o'.map D.write) := by
  cases o with
  | none => cases o' with
    | none => rfl
    | some d => simp at h
  | some d => cases o' with
    | none => simp at h
    | some d' =>
      simp only [Option.map_some, Option.some.injEq] at h
      exact zr_write h (hn _ rfl) (hn' _ rfl)

theorem sum_not_nan {a b d : Datum} (h : a.sum b = some d) : d.isNaN = false := by
  unfold Datum.sum at h
  split at h
  · cases h
  · cases h
  · split at h
    · cases h; rfl
    · cases h
  · cases h; rfl
  · cases h; rfl
  · cases h; rfl

theorem product_not_nan {a b d : Datum} (h : a.product b = some d) : d.isNaN = false := by
  unfold Datum.product at h
  split at h
  · cases h
  · cases h
  · cases h; rfl
  · split at h
    · cases h
    · cases h; rfl
  · split at h
    · cases h
    · cases h; rfl
  · cases h; rfl

theorem signed_zero (s : Bool) (k : Nat) : signed s 0 k = 0 := by cases s <;> simp [signed]

theorem sum_z (a b : Datum) : (a.sum b).map z = ((z a).sum (z b)).map z := by
  cases a with
  | nan s f => cases b <;> rfl
  | infinity s => cases b <;> simp [z, Datum.sum]
  | number s m p => cases b with
    | nan t f => rfl
    | infinity t => rfl
    | number t n q =>
      simp only [z, Datum.sum, Option.map_some, Option.some.injEq, Datum.number.injEq, and_true]
      have e1 : ∀ k, signed (if m = 0 then false else s) m k = signed s m k := fun k => by
        by_cases hm : m = 0
        · subst hm; rw [signed_zero, signed_zero]
        · rw [if_neg hm]
      have e2 : ∀ k, signed (if n = 0 then false else t) n k = signed t n k := fun k => by
        by_cases hm : n = 0
        · subst hm; rw [signed_zero, signed_zero]
        · rw [if_neg hm]
      rw [e1, e2]
      generalize signed s m (p - min p q).toNat + signed t n (q - min p q).toNat = T
      by_cases hT : T = 0
      · subst hT; simp
      · simp [hT]

theorem product_z (a b : Datum) : (a.product b).map z = ((z a).product (z b)).map z := by
  cases a with
  | nan s f => cases b <;> rfl
  | infinity s => cases b with
    | nan t f => rfl
    | infinity t => rfl
    | number t n q =>
      simp only [z, Datum.product]
      by_cases hn : n = 0
      · subst hn; simp
      · simp [hn]
  | number s m p => cases b with
    | nan t f => rfl
    | infinity t =>
      simp only [z, Datum.product]
      by_cases hn : m = 0
      · subst hn; simp
      · simp [hn]
    | number t n q =>
      simp only [z, Datum.product, Option.map_some, Option.some.injEq, Datum.number.injEq, and_true]
      by_cases hm : m = 0
      · subst hm; simp
      · by_cases hn : n = 0
        · subst hn; simp
        · simp [hm, hn]

theorem z_opposite (a : Datum) : z (z a).opposite = z a.opposite := by
  cases a with
  | nan s f => rfl
  | infinity s => rfl
  | number s m p =>
    simp only [z, Datum.opposite]
    by_cases hm : m = 0 <;> simp [hm]

theorem zadd_eq {x y x' y' : Nat} (hx : zr x = zr x') (hy : zr y = zr y') : zr (fadd x y) = zr (fadd x' y') := by
  unfold fadd
  rw [zr_cno, zr_cno]
  refine zo_write ?_ (fun d h => sum_not_nan h) (fun d h => sum_not_nan h)
  rw [sum_z, sum_z (D.read x') (D.read y')]
  unfold zr at hx hy
  rw [hx, hy]

theorem zsub_eq {x y x' y' : Nat} (hx : zr x = zr x') (hy : zr y = zr y') : zr (fsub x y) = zr (fsub x' y') := by
  unfold fsub
  rw [zr_cno, zr_cno]
  refine zo_write ?_ (fun d h => sum_not_nan h) (fun d h => sum_not_nan h)
  rw [sum_z, sum_z (D.read x')]
  unfold zr at hx hy
  rw [← z_opposite, hy, z_opposite, hx]

theorem zmul_eq {x y x' y' : Nat} (hx : zr x = zr x') (hy : zr y = zr y') : zr (fmul x y) = zr (fmul x' y') := by
  unfold fmul
  rw [zr_cno, zr_cno]
  refine zo_write ?_ (fun d h => product_not_nan h) (fun d h => product_not_nan h)
  rw [product_z, product_z (D.read x') (D.read y')]
  unfold zr at hx hy
  rw [hx, hy]

/-! the sign turned round -/

def fneg (x : Nat) : Nat := x ^^^ 2 ^ 63

theorem read_neg (x : Nat) : D.read (fneg x) = (D.read x).opposite := by
  have hs : D.signWeight = 2 ^ 63 := by decide
  have h1 : fneg x % 2 ^ 63 = x % 2 ^ 63 := by
    unfold fneg
    rw [Nat.xor_mod_two_pow, Nat.mod_self, Nat.xor_zero]
  have h2 : (fneg x / 2 ^ 63 % 2 == 1) = !(x / 2 ^ 63 % 2 == 1) := by
    unfold fneg
    rw [Nat.xor_div_two_pow, Nat.div_self (by decide)]
    have h3 : ((x / 2 ^ 63) ^^^ 1) % 2 = ((x / 2 ^ 63) % 2) ^^^ 1 := by
      have := @Nat.xor_mod_two_pow (x / 2 ^ 63) 1 1
      simpa using this
    rw [h3]
    rcases Nat.mod_two_eq_zero_or_one (x / 2 ^ 63) with h | h <;> rw [h] <;> decide
  unfold Format.read
  simp only [hs, h1, h2]
  split
  · rfl
  · split
    · rfl
    · split <;> rfl

theorem read_neg_z (x : Nat) : zr (fneg x) = z (zr x).opposite := by
  unfold zr
  rw [read_neg, z_opposite]

theorem zneg_eq {x y : Nat} (h : zr x = zr y) : zr (fneg x) = zr (fneg y) := by
  rw [read_neg_z, read_neg_z, h]

theorem zr_write_opposite {d : Datum} (hn : d.isNaN = false) : zr (D.write d.opposite) = zr (fneg (D.write d)) := by
  rw [read_neg_z]
  cases d with
  | nan s f => cases hn
  | infinity s => cases s <;> decide +kernel
  | number s m p =>
    by_cases hm : m = 0
    · subst hm
      unfold Datum.opposite Format.write Format.nearest
      simp only [if_true]
      cases s <;> decide +kernel
    · have key : D.write (.number (!s) m p) = fneg (D.write (.number s m p)) := by
        unfold Format.write Format.nearest
        simp only [hm, if_false]
        have hc : ∀ s' n d, Toward.even.cut s' n d = Toward.even.cut false n d := fun _ _ _ => rfl
        rw [hc, hc s]
        generalize hr : min _ D.infRung = r
        have hlt : r < 2 ^ 63 := by
          have hi : D.infRung < 2 ^ 63 := by decide
          omega
        have hs : D.signWeight = 2 ^ 63 := by decide
        have hx : r ^^^ 2 ^ 63 = 2 ^ 63 + r := by
          have := Nat.two_pow_add_eq_or_of_lt hlt 1
          rw [Nat.mul_one] at this
          rw [this]
          apply Nat.eq_of_testBit_eq
          intro i
          rw [Nat.testBit_xor, Nat.testBit_or, Nat.testBit_two_pow]
          by_cases h : 63 = i
          · subst h; rw [Nat.testBit_lt_two_pow hlt]; rfl
          · simp [h]
        unfold Format.word fneg
        cases s
        · simp only [Bool.not_false, if_true, Bool.false_eq_true, if_false, hs]
          exact hx.symm
        · simp only [Bool.not_true, if_true, Bool.false_eq_true, if_false, hs]
          rw [← hx, Nat.xor_assoc, Nat.xor_self, Nat.xor_zero]
      show zr (D.write (.number (!s) m p)) = _
      rw [key, read_neg_z]

theorem zo_write_opposite {o : Option Datum} (hn : ∀ d, o = some d → d.isNaN = false) : zo ((o.map Datum.opposite).map D.write) = z (zo (o.map D.write)).opposite := by
  cases o with
  | none => rfl
  | some d =>
    show zr (D.write d.opposite) = z (zr (D.write d)).opposite
    rw [zr_write_opposite (hn d rfl), read_neg_z]

theorem map_not_nan {o o' : Option Datum} (h : o.map z = o'.map z) (hn : ∀ d, o = some d → d.isNaN = false) : ∀ d, o' = some d → d.isNaN = false := by
  intro d hd
  subst hd
  cases o with
  | none => simp at h
  | some e =>
    have := hn e rfl
    simp only [Option.map_some, Option.some.injEq] at h
    cases e <;> cases d <;> simp_all [z, Datum.isNaN]

theorem sum_opposite (a b : Datum) : (a.opposite.sum b.opposite).map z = ((a.sum b).map Datum.opposite).map z := by
  cases a with
  | nan s f => cases b <;> rfl
  | infinity s => cases b with
    | nan t f => rfl
    | number t n q => rfl
    | infinity t => cases s <;> cases t <;> rfl
  | number s m p => cases b with
    | nan t f => rfl
    | infinity t => rfl
    | number t n q =>
      simp only [Datum.opposite, Datum.sum, Option.map_some, Option.some.injEq, z, Datum.number.injEq, and_true]
      have e : ∀ (s : Bool) (m k : Nat), signed (!s) m k = - signed s m k := fun s m k => by cases s <;> simp [signed]
      rw [e, e]
      generalize signed s m (p - min p q).toNat = S
      generalize signed t n (q - min p q).toNat = T
      have ha : (-S + -T).natAbs = (S + T).natAbs := by omega
      refine ⟨?_, ha⟩
      rw [ha]
      by_cases h0 : S + T = 0
      · simp [h0]
      · have h1 : (S + T).natAbs ≠ 0 := by omega
        have h2 : -S + -T ≠ 0 := by omega
        rw [if_neg h1, if_neg h1, if_neg h2, if_neg h0]
        have : decide (-S + -T < 0) = !decide (S + T < 0) := by
          rw [Bool.eq_iff_iff]; simp; omega
        exact this

theorem product_opposite (a b : Datum) : a.product b.opposite = (a.product b).map Datum.opposite := by
  cases a with
  | nan s f => cases b <;> rfl
  | infinity s => cases b with
    | nan t f => rfl
    | infinity t => cases s <;> cases t <;> rfl
    | number t n q =>
      simp only [Datum.opposite, Datum.product]
      by_cases h : n = 0
      · simp [h]
      · cases s <;> cases t <;> simp [h, Datum.opposite]
  | number s m p => cases b with
    | nan t f => rfl
    | infinity t =>
      simp only [Datum.opposite, Datum.product]
      by_cases h : m = 0
      · simp [h]
      · cases s <;> cases t <;> simp [h, Datum.opposite]
    | number t n q => cases s <;> cases t <;> rfl

theorem map_opposite_not_nan {o : Option Datum} (hn : ∀ d, o = some d → d.isNaN = false) : ∀ d, o.map Datum.opposite = some d → d.isNaN = false := by
  intro d hd
  cases o with
  | none => simp at hd
  | some e =>
    have := hn e rfl
    simp only [Option.map_some, Option.some.injEq] at hd
    subst hd
    cases e <;> simp_all [Datum.opposite, Datum.isNaN]

/-- What adding makes of two that are turned round. -/
theorem zadd_neg (x y : Nat) : zr (fadd (fneg x) (fneg y)) = z (zr (fadd x y)).opposite := by
  unfold fadd
  rw [zr_cno, zr_cno]
  unfold Format.add
  rw [read_neg, read_neg, ← zo_write_opposite (fun d h => sum_not_nan h)]
  exact zo_write (sum_opposite _ _) (fun d h => sum_not_nan h) (map_opposite_not_nan fun d h => sum_not_nan h)

theorem zsub_neg (x y : Nat) : zr (fsub (fneg x) (fneg y)) = z (zr (fsub x y)).opposite := by
  unfold fsub
  rw [zr_cno, zr_cno]
  unfold Format.sub
  rw [read_neg, read_neg, ← zo_write_opposite (fun d h => sum_not_nan h)]
  exact zo_write (sum_opposite _ _) (fun d h => sum_not_nan h) (map_opposite_not_nan fun d h => sum_not_nan h)

theorem zmul_neg (x y : Nat) : zr (fmul x (fneg y)) = z (zr (fmul x y)).opposite := by
  unfold fmul
  rw [zr_cno, zr_cno]
  unfold Format.mul
  rw [read_neg, product_opposite, ← zo_write_opposite (fun d h => product_not_nan h)]

/-! held against each other -/

theorem order_self_of {x y : Nat} (h : zr x = zr y) (hn : nan x = false) : D.order x y = some .eq := by
  unfold Format.order
  unfold zr at h
  unfold nan at hn
  cases hx : D.read x with
  | nan s f => rw [hx] at hn; cases hn
  | infinity s =>
    rw [hx] at h
    cases hy : D.read y with
    | nan t g => rw [hy] at h; simp [z] at h
    | infinity t =>
      rw [hy] at h
      simp only [z, Datum.infinity.injEq] at h
      subst h
      cases s <;> rfl
    | number t n q => rw [hy] at h; simp [z] at h
  | number s m p =>
    rw [hx] at h
    cases hy : D.read y with
    | nan t g => rw [hy] at h; simp [z] at h
    | infinity t => rw [hy] at h; simp [z] at h
    | number t n q =>
      rw [hy] at h
      simp only [z, Datum.number.injEq] at h
      obtain ⟨h1, rfl, rfl⟩ := h
      have e : ∀ k, signed s m k = signed t m k := fun k => by
        by_cases hm : m = 0
        · subst hm; rw [signed_zero, signed_zero]
        · rw [if_neg hm, if_neg hm] at h1; rw [h1]
      simp only [Datum.order, e, Option.some.injEq]
      exact Int.compare_eq_eq.2 rfl

theorem order_nan_left {x y : Nat} (h : nan x = true) : D.order x y = none := by
  obtain ⟨s, f, e⟩ := read_nan h
  unfold Format.order
  rw [e]
  cases D.read y <;> rfl

theorem nan_of_zr {x y : Nat} (h : zr x = zr y) : nan x = nan y := by
  unfold zr at h
  unfold nan
  cases hx : D.read x <;> cases hy : D.read y <;> rw [hx, hy] at h <;> simp_all [z, Datum.isNaN]

/-- 'a == b, or both are no numbers': where both stand for the same but for the sign of nought. -/
def eqB (x y : Nat) : Bool := D.order x y == some .eq || (D.order x x != some .eq && D.order y y != some .eq)

theorem order_self {x : Nat} (h : nan x = false) : D.order x x = some .eq := order_self_of rfl h

theorem eqB_of {x y : Nat} (h : zr x = zr y) : eqB x y = true := by
  unfold eqB
  cases hn : nan x with
  | false => rw [order_self_of h hn]; rfl
  | true => rw [order_nan_left hn, order_nan_left hn, order_nan_left (nan_of_zr h ▸ hn)]; rfl

/-- The same bits, or both no numbers. -/
def likeB (x y : Nat) : Bool := x == y || (D.order x x != some .eq && D.order y y != some .eq)

theorem nan_iff (x : Nat) : (D.order x x != some .eq) = nan x := by
  cases h : nan x with
  | false => rw [order_self h]; rfl
  | true => rw [order_nan_left h]; rfl

theorem likeB_iff (x y : Nat) : likeB x y = decide (cn x = cn y) := by
  unfold likeB
  rw [nan_iff, nan_iff]
  rcases cn_cases x with ⟨hx, ex⟩ | ⟨hx, ex⟩ <;> rcases cn_cases y with ⟨hy, ey⟩ | ⟨hy, ey⟩ <;> rw [hx, hy, ex, ey]
  · simp
  · have : x ≠ y := fun e => by rw [e, hy] at hx; cases hx
    have h2 : qn ≠ y := fun e => by rw [← e, nan_qn] at hy; cases hy
    simp [this, h2]
  · have : x ≠ y := fun e => by rw [e, hy] at hx; cases hx
    have h2 : x ≠ qn := fun e => by rw [e, nan_qn] at hx; cases hx
    simp [this, h2]
  · rw [Bool.eq_iff_iff]; simp

end Go.Proofs.Ytdliilmnfbgplaa.Fl

/- Adding, subtracting, multiplying floats in a walk: whatever bits a NaN is given. Plain laws over any program. -/
namespace Go.Proofs.Ytdliilmnfbgplaa.Fw
open Go Go.Proofs.Ytdliilmnfbgplaa.Fl

/-- What an operation on floats gives, NaNs as one. -/
def fo (op : BinOp) (x y : Nat) : Nat :=
  match op with
  | .add => fadd x y
  | .sub => fsub x y
  | _ => fmul x y

theorem nan_cut (x y t : Nat) : nan ((Question.nanBits .f64 x y).cut t) = true := by
  unfold nan Question.cut Ieee.Format.read
  have hs : D.signWeight = 2 ^ 63 := by decide
  have hi : D.infRung = 2047 * 2 ^ 52 := by decide
  have hb : D.binade = 2 ^ 52 := by decide
  have h1 : (t / 2) % (2 ^ 52 - 1) < 2 ^ 52 - 1 := Nat.mod_lt _ (by decide)
  have h2 : ((t % 2) * 2 ^ 63 + 0x7ff0000000000000 + 1 + (t / 2) % (2 ^ 52 - 1)) % 2 ^ 63 = 0x7ff0000000000000 + 1 + (t / 2) % (2 ^ 52 - 1) := by omega
  simp only [hs, h2, hi, hb]
  rw [if_neg (by omega), if_neg (by omega), if_neg (by omega)]
  rfl

section
variable {P : Program}

theorem run_farith (w : World) (op : BinOp) (h : op = .add ∨ op = .sub ∨ op = .mul) (t : TypeId) (x y : Nat) :
    ∃ r n, (binOp op t (.float .f64 x) (.float .f64 y)).run P w = .ok (.float .f64 r) (w.drewN n) ∧ cn r = fo op x y := by
  have key : ∀ (o : Option Nat) (s : Sem Value), s = (match o with | some r => pure (.float .f64 r) | none => do pure (.float .f64 (← choose (.nanBits .f64 x y)))) →
      ∃ r n, s.run P w = .ok (.float .f64 r) (w.drewN n) ∧ cn r = cno o := by
    intro o s hs
    cases o with
    | some r =>
      subst hs
      exact ⟨r, 0, by simp [World.drewN_zero], rfl⟩
    | none =>
      subst hs
      refine ⟨(Question.nanBits .f64 x y).cut (w.tape w.drawn (.nanBits .f64 x y)), 1, ?_, ?_⟩
      · simp [choose, Sem.run, Question.forced, World.drewN, Bind.bind, Sem.bind, Pure.pure]
      · rw [cn_of_nan (nan_cut x y _)]; rfl
  rcases h with rfl | rfl | rfl
  · exact key (D.add x y) _ (by simp [binOp, Op.floatArith]; rfl)
  · exact key (D.sub x y) _ (by simp [binOp, Op.floatArith]; rfl)
  · exact key (D.mul x y) _ (by simp [binOp, Op.floatArith]; rfl)

theorem run_exec_farith (w : World) {o : Oper} {a : Act} (op : BinOp) (h : op = .add ∨ op = .sub ∨ op = .mul) (X Y : Operand) (t t' : TypeId) (ho : o.op = .binOp op t X Y t') {x y : Nat}
    (hx : a.eval X = .float .f64 x) (hy : a.eval Y = .float .f64 y) :
    ∃ r n, (execOp a.eval o).run P w = .ok (.value (.float .f64 r)) (w.drewN n) ∧ cn r = fo op x y := by
  obtain ⟨r, n, hr, hc⟩ := run_farith (P := P) w op h t x y
  refine ⟨r, n, ?_, hc⟩
  have hg : eqGuard op t X Y (.float .f64 x) (.float .f64 y) = pure () := by
    rcases h with rfl | rfl | rfl <;> simp [eqGuard] <;> rfl
  unfold execOp
  simp only [ho, hx, hy, hg]
  simp [hr, Result.andThen]

/-- In a region that draws its order. -/
theorem loose_farith {w : World} {o : Oper} {a : Act} {c : Option Value} {K : Act → Prop} (op : BinOp) (h : op = .add ∨ op = .sub ∨ op = .mul) (X Y : Operand) (t t' : TypeId) (ho : o.op = .binOp op t X Y t') {x y : Nat}
    (hx : a.eval X = .float .f64 x) (hy : a.eval Y = .float .f64 y) (hk : ∀ r, cn r = fo op x y → K (a.put o.dst (.float .f64 r))) :
    Loose.loose P o a (fun w' => ∃ n, w' = w.drewN n) c K := by
  rintro _ ⟨n, rfl⟩
  obtain ⟨r, m, hr, hc⟩ := run_exec_farith (P := P) (w.drewN n) op h X Y t t' ho hx hy
  refine ⟨.float .f64 r, ?_, hk r hc⟩
  unfold Loose.gives
  rw [hr]
  exact ⟨⟨n + m, by rw [World.drewN_drewN]⟩, rfl⟩

/-- In the order of the text. -/
theorem wpList_farith (w : World) {ops : Array Oper} {rest : List Oper} {o : Oper} {a : Act} {Q : Exit → Act → World → Prop} (hg : o.guard = none) (op : BinOp) (h : op = .add ∨ op = .sub ∨ op = .mul) (X Y : Operand) (t t' : TypeId) (ho : o.op = .binOp op t X Y t')
    {x y : Nat} (hx : a.eval X = .float .f64 x) (hy : a.eval Y = .float .f64 y) (hk : ∀ r n, cn r = fo op x y → wpList P ops Q rest (a.put o.dst (.float .f64 r)) (w.drewN n)) :
    wpList P ops Q (o :: rest) a w := by
  refine wpList_plain hg fun K hK => ?_
  obtain ⟨r, n, hr, hc⟩ := run_exec_farith (P := P) w op h X Y t t' ho hx hy
  unfold Oper.wp
  rw [hr]
  exact hK _ _ (hk r n hc)

/-- A float stored in a cell. -/
@[go_sem] theorem run_store_float (w : World) (a : Addr) (m : Mode) (k : FloatKind) (x : Nat) : (store a (.float k x) m).run P w = stored P w a (.float k x) m := run_store P w a _ m rfl

/-- A float, its sign turned round. -/
@[go_sem] theorem unary_neg_float (x : Nat) : Op.unary .neg (.float .f64 x) = pure (.float .f64 (fneg x)) := rfl

/-- A callee that leaves the world as it is, called in a region that draws its order. -/
theorem loose_same {f : FuncId} {args : Array Value} {w : World} {v : Value} (h : ∀ n, Calls P f args (w.drewN n) fun e w' => e = .returned v ∧ w.drewN n = w') :
    ∀ w', (∃ n, w' = w.drewN n) → Calls P f args w' fun e w'' => e = .returned v ∧ ∃ n, w'' = w.drewN n := by
  rintro _ ⟨n, rfl⟩
  exact (h n).mono fun _ _ ⟨h1, h2⟩ => ⟨h1, n, h2.symm⟩

end
end Go.Proofs.Ytdliilmnfbgplaa.Fw

/- Small laws on the heap's blocks: what a store, a new block, a draw do to a block that is known whole; what 'grownBy' hands on. Plain laws over any program. -/
namespace Go.Proofs.Ytdliilmnfbgplaa.Hp
open Go Go.RowKit

theorem set_self {w : World} {b o : Nat} {c : Array Value} {e : TypeId} {z : Nat × Nat} (h : w.heap[b]? = some (.cells c e z)) (v : Value) :
    (w.setCell ⟨b, o, none⟩ v).heap[b]? = some (.cells (c.setIfInBounds o v) e z) := by
  simp only [World.setCell, Array.getElem?_modify, if_true, h, Option.map_some]
  simp

theorem set_other {w : World} {a : Addr} {b : Nat} (h : b ≠ a.block) (v : Value) : (w.setCell a v).heap[b]? = w.heap[b]? := Below.heap_setCell _ _ _ _ h

theorem drewN_heap (w : World) (n : Nat) : (w.drewN n).heap = w.heap := rfl

theorem cell_of {w : World} {b : Nat} {c : Array Value} {e : TypeId} {z : Nat × Nat} (h : w.heap[b]? = some (.cells c e z)) (o : Nat) : w.cell? ⟨b, o, none⟩ = c[o]? := by
  simp [World.cell?, h]

theorem free_of {w : World} {b : Nat} {c : Array Value} {e : TypeId} (h : w.heap[b]? = some (.cells c e (0, 0))) (o : Nat) : w.frozen? ⟨b, o, none⟩ = false := by
  simp [World.frozen?, h]

theorem lt_of {w : World} {b : Nat} {o : Obj} (h : w.heap[b]? = some o) : b < w.heap.size := (Array.getElem?_eq_some_iff.1 h).1

theorem size_set (w : World) (a : Addr) (v : Value) : (w.setCell a v).heap.size = w.heap.size := by simp [World.setCell]

theorem grown_refl (w : World) (r : Option Nat) : w.grownBy w r := ⟨rfl, rfl, rfl, Nat.le_refl _, fun _ _ _ => rfl⟩

theorem grown_trans {a b c : World} {r : Option Nat} (h : a.grownBy b r) (k : b.grownBy c r) : a.grownBy c r :=
  ⟨k.os.trans h.os, k.tape.trans h.tape, k.output.trans h.output, Nat.le_trans h.size k.size, fun i hi hr => (k.block i (Nat.lt_of_lt_of_le hi h.size) hr).trans (h.block i hi hr)⟩

theorem grown_none {a b : World} (h : a.grownBy b none) (r : Option Nat) : a.grownBy b r := ⟨h.os, h.tape, h.output, h.size, fun i hi _ => h.block i hi (by simp)⟩

theorem grown_drewN {a b : World} {r : Option Nat} (h : a.grownBy b r) (n : Nat) : a.grownBy (b.drewN n) r := ⟨h.os, h.tape, h.output, h.size, h.block⟩

theorem grown_drew {a b : World} {r : Option Nat} (h : a.grownBy b r) : a.grownBy b.drew r := ⟨h.os, h.tape, h.output, h.size, h.block⟩

/-- A store into the row that may be written, or into a block that is new. -/
theorem grown_set {a b : World} {r : Option Nat} (h : a.grownBy b r) {p : Addr} (hp : some p.block = r ∨ a.heap.size ≤ p.block) (v : Value) : a.grownBy (b.setCell p v) r :=
  ⟨h.os, h.tape, h.output, by rw [size_set]; exact h.size, fun i hi hr => by
    rw [set_other (fun e => by
      subst e
      rcases hp with hp | hp
      · exact hr hp
      · omega) v]
    exact h.block i hi hr⟩

theorem grown_alloc {a b : World} {r : Option Nat} (h : a.grownBy b r) (o : Obj) : a.grownBy (b.alloc o) r :=
  ⟨h.os, h.tape, h.output, by have := h.size; simp; omega, fun i hi hr => by
    rw [Below.heap_alloc _ _ _ (Nat.lt_of_lt_of_le hi h.size)]; exact h.block i hi hr⟩

/-- What may be written lies in a new block: then nothing that was there has turned. -/
theorem grown_new {a b : World} {k : Nat} (h : a.grownBy b (some k)) (hk : a.heap.size ≤ k) : a.grownBy b none :=
  ⟨h.os, h.tape, h.output, h.size, fun i hi _ => h.block i hi (by simp; omega)⟩

/-- From a later world's frame, seen from an earlier one. -/
theorem grown_from {a b c : World} {r : Option Nat} (h : a.grownBy b r) {k : Nat} (g : b.grownBy c (some k)) (hk : a.heap.size ≤ k ∨ r = some k) : a.grownBy c r :=
  ⟨g.os.trans h.os, g.tape.trans h.tape, g.output.trans h.output, Nat.le_trans h.size g.size, fun i hi hr => by
    rw [g.block i (Nat.lt_of_lt_of_le hi h.size) (by
      rcases hk with hk | hk
      · simp; omega
      · rw [← hk]; exact hr)]
    exact h.block i hi hr⟩

theorem grown_below {a b : World} (h : a.grownBy b none) : Below a.heap.size a b := ⟨h.os, h.tape, h.output, h.size, fun i hi => h.block i hi (by simp)⟩

theorem below_grown {a b : World} (h : Below a.heap.size a b) : a.grownBy b none := ⟨h.os, h.tape, h.output, h.size, fun i hi _ => h.block i hi⟩

theorem grown_cell {a b : World} {r : Option Nat} (h : a.grownBy b r) {p : Addr} {v : Value} (hc : a.cell? p = some v) (hr : some p.block ≠ r) : b.cell? p = some v := h.cell hc hr

theorem new_of_made {w w1 : World} {e : TypeId} {n : Nat} {v : Value} (h : w1.ownsRow w.heap.size e 1 (.slice (some ⟨w.heap.size, 0, none⟩) n n) n (List.replicate n v)) :
    w1.heap[w.heap.size]? = some (.cells (List.replicate n v).toArray e (0, 0)) := by
  obtain ⟨_, h | ⟨g, cap, cur, hv, _, hg, _, _, hs, ht⟩⟩ := h
  · simp at h
  · simp only [Value.slice.injEq, Option.some.injEq, Addr.mk.injEq, and_true] at hv
    obtain ⟨rfl, _, rfl⟩ := hv
    rw [hg]
    have : cur.toList = List.replicate n v := by
      rw [← ht, List.take_of_length_le (by simp [hs])]
    rw [← this]

theorem madeCells_one (v : Value) (n : Nat) : (madeCells #[v] n).toList = List.replicate n v := by
  apply List.ext_getElem
  · simp [madeCells]
  · intro i h1 h2
    simp [madeCells] at h1 ⊢
    rw [Nat.mod_one]; rfl

end Go.Proofs.Ytdliilmnfbgplaa.Hp

/- Rounding to a float: no further than a float that bounds what is rounded. Plain laws, no program in sight. -/
namespace Go.Proofs.Ytdliilmnfbgplaa.Rnd
open Ieee

abbrev D : Format := double

theorem cut_le (neg : Bool) {n d q : Nat} (h : n ≤ q * 2 ^ d) : Toward.even.cut neg n d ≤ q := by
  unfold Toward.cut
  simp only [Nat.shiftLeft_eq, Nat.one_mul]
  by_cases hd : d ≤ n.log2 + 2
  · rw [Nat.min_eq_left hd]
    have hp : 0 < 2 ^ d := Nat.two_pow_pos d
    generalize hg : 2 ^ d = g at *
    have hdm := Nat.div_add_mod n g
    have hml := Nat.mod_lt n hp
    by_cases hlt : n / g < q
    · have : (decide (g < 2 * (n % g)) || (g == 2 * (n % g) && n / g % 2 == 1)).toNat ≤ 1 := by cases (decide (g < 2 * (n % g)) || (g == 2 * (n % g) && n / g % 2 == 1)) <;> decide
      omega
    · have hq : q ≤ n / g := by omega
      have h1 : q * g ≤ n / g * g := Nat.mul_le_mul_right _ hq
      have h2 : n / g * g = g * (n / g) := Nat.mul_comm _ _
      have h3 : n % g = 0 := by omega
      have h4 : n / g = q := by
        refine Nat.le_antisymm ?_ hq
        rcases Nat.lt_or_ge q (n / g) with hh | hh
        · have : (q + 1) * g ≤ n / g * g := Nat.mul_le_mul_right _ hh
          rw [Nat.add_mul] at this
          omega
        · exact hh
      have hb : (decide (g < 2 * (n % g)) || (g == 2 * (n % g) && n / g % 2 == 1)) = false := by
        rw [h3]
        have : ¬ g < 0 := by omega
        have h5 : (g == 2 * 0) = false := by rw [beq_eq_false_iff_ne]; omega
        simp [h5]
      rw [hb, h4]
      simp
  · rw [Nat.min_eq_right (by omega)]
    have hlt : n < 2 ^ (n.log2 + 1) := Nat.lt_log2_self
    have hg : 2 ^ (n.log2 + 2) = 2 * 2 ^ (n.log2 + 1) := by rw [Nat.pow_succ 2 (n.log2 + 1)]; omega
    rw [hg]
    generalize 2 ^ (n.log2 + 1) = g at *
    rw [Nat.div_eq_of_lt (by omega), Nat.mod_eq_of_lt (by omega)]
    have h1 : ¬ (2 * g < 2 * n) := by omega
    have h2 : (2 * g == 2 * n) = false := by rw [beq_eq_false_iff_ne]; omega
    simp [h1, h2]

theorem cut_ge (neg : Bool) {n d q : Nat} (h : q * 2 ^ d ≤ n) : q ≤ Toward.even.cut neg n d := by
  unfold Toward.cut
  simp only [Nat.shiftLeft_eq, Nat.one_mul]
  by_cases hd : d ≤ n.log2 + 2
  · rw [Nat.min_eq_left hd]
    have hp : 0 < 2 ^ d := Nat.two_pow_pos d
    have : q ≤ n / 2 ^ d := (Nat.le_div_iff_mul_le hp).2 h
    omega
  · have hlt : n < 2 ^ (n.log2 + 1) := Nat.lt_log2_self
    have hle : 2 ^ (n.log2 + 1) ≤ 2 ^ d := Nat.pow_le_pow_right (by decide) (by omega)
    have hq : q = 0 := by
      rcases Nat.eq_zero_or_pos q with h0 | h0
      · exact h0
      · have : 1 * 2 ^ d ≤ q * 2 ^ d := Nat.mul_le_mul_right _ h0
        omega
    rw [hq]
    exact Nat.zero_le _

/-- What a rung stands for, in units of 2 ^ (-1074). -/
def V (r : Nat) : Nat := if r < 2 ^ 52 then r else (2 ^ 52 + r % 2 ^ 52) * 2 ^ (r / 2 ^ 52 - 1)

theorem V_rung {e k : Nat} (hk : k ≤ 2 ^ 53) (he : e = 0 ∨ 2 ^ 52 ≤ k) : V (e * 2 ^ 52 + k) = k * 2 ^ e := by
  unfold V
  rcases he with rfl | he
  · rw [Nat.zero_mul, Nat.zero_add, Nat.pow_zero, Nat.mul_one]
    split
    · rfl
    · by_cases h : k = 2 ^ 53
      · subst h; decide
      · rw [show k / 2 ^ 52 = 1 from by omega, show k % 2 ^ 52 = k - 2 ^ 52 from by omega]
        simp
        omega
  · rw [if_neg (by omega)]
    by_cases h : k = 2 ^ 53
    · subst h
      rw [show (e * 2 ^ 52 + 2 ^ 53) / 2 ^ 52 = e + 2 from by omega, show (e * 2 ^ 52 + 2 ^ 53) % 2 ^ 52 = 0 from by omega, show e + 2 - 1 = e + 1 from by omega, Nat.pow_succ 2 e]
      rw [Nat.add_zero, ← Nat.mul_assoc, Nat.mul_right_comm, ← Nat.pow_succ 2 52]
    · rw [show (e * 2 ^ 52 + k) / 2 ^ 52 = e + 1 from by omega, show (e * 2 ^ 52 + k) % 2 ^ 52 = k - 2 ^ 52 from by omega, show e + 1 - 1 = e from by omega, show 2 ^ 52 + (k - 2 ^ 52) = k from by omega]

theorem V_succ (r : Nat) : V r < V (r + 1) := by
  by_cases h1 : r + 1 < 2 ^ 52
  · unfold V; rw [if_pos (by omega), if_pos h1]; omega
  · by_cases h2 : r < 2 ^ 52
    · have : r + 1 = 2 ^ 52 := by omega
      rw [this]; unfold V; rw [if_pos h2, if_neg (by omega)]; simp; omega
    · have e1 := V_rung (e := r / 2 ^ 52 - 1) (k := 2 ^ 52 + r % 2 ^ 52) (by omega) (.inr (by omega))
      have e2 := V_rung (e := r / 2 ^ 52 - 1) (k := 2 ^ 52 + r % 2 ^ 52 + 1) (by omega) (.inr (by omega))
      rw [show (r / 2 ^ 52 - 1) * 2 ^ 52 + (2 ^ 52 + r % 2 ^ 52) = r from by omega] at e1
      rw [show (r / 2 ^ 52 - 1) * 2 ^ 52 + (2 ^ 52 + r % 2 ^ 52 + 1) = r + 1 from by omega] at e2
      rw [e1, e2, Nat.add_mul _ 1]
      have := Nat.two_pow_pos (r / 2 ^ 52 - 1)
      omega

theorem V_lt {a b : Nat} (h : a < b) : V a < V b := by
  induction b with
  | zero => omega
  | succ b ih =>
    by_cases hb : a = b
    · subst hb; exact V_succ a
    · exact Nat.lt_trans (ih (by omega)) (V_succ b)

theorem V_le {a b : Nat} : V a ≤ V b ↔ a ≤ b := by
  constructor
  · intro h
    rcases Nat.lt_or_ge b a with hb | hb
    · have := V_lt hb; omega
    · exact hb
  · intro h
    rcases Nat.eq_or_lt_of_le h with rfl | h
    · exact Nat.le_refl _
    · exact Nat.le_of_lt (V_lt h)

/-- Either a rung's value is so many times 2 ^ e, or it lies below 2 ^ 52 times that. -/
theorem V_grid (r e : Nat) : (∃ q, V r = q * 2 ^ e) ∨ V r < 2 ^ 52 * 2 ^ e := by
  by_cases h : r < 2 ^ 52
  · right
    unfold V
    rw [if_pos h]
    have := Nat.two_pow_pos e
    calc r < 2 ^ 52 * 1 := by omega
      _ ≤ 2 ^ 52 * 2 ^ e := Nat.mul_le_mul_left _ this
  · by_cases he : e ≤ r / 2 ^ 52 - 1
    · left
      refine ⟨(2 ^ 52 + r % 2 ^ 52) * 2 ^ (r / 2 ^ 52 - 1 - e), ?_⟩
      unfold V
      rw [if_neg h, Nat.mul_assoc, ← Nat.pow_add, Nat.sub_add_cancel he]
    · right
      unfold V
      rw [if_neg h]
      have h1 : 2 ^ (r / 2 ^ 52 - 1 + 1) ≤ 2 ^ e := Nat.pow_le_pow_right (by decide) (by omega)
      rw [Nat.pow_succ] at h1
      have h2 : 2 ^ 52 + r % 2 ^ 52 < 2 ^ 53 := by omega
      have h3 := Nat.two_pow_pos (r / 2 ^ 52 - 1)
      generalize 2 ^ (r / 2 ^ 52 - 1) = g at *
      calc (2 ^ 52 + r % 2 ^ 52) * g < 2 ^ 53 * g := Nat.mul_lt_mul_of_pos_right h2 h3
        _ = 2 ^ 52 * (g * 2) := by omega
        _ ≤ 2 ^ 52 * 2 ^ e := Nat.mul_le_mul_left _ h1

/-- What 'nearest' writes: the rung, and how it stands to what is written. -/
theorem nearest_is (neg : Bool) {mag : Nat} (place : Int) (h0 : mag ≠ 0) : ∃ rung, D.nearest neg mag place = D.word neg (min rung D.infRung) ∧
    ∀ (s u r : Nat), (u : Int) = place + 1074 + s → (mag * 2 ^ u ≤ V r * 2 ^ s → rung ≤ r) ∧ (V r * 2 ^ s ≤ mag * 2 ^ u → r ≤ rung) := by
  have hf : D.fractionBits = 52 := rfl
  have hl : D.leastPlace = -1074 := by decide
  have hb : D.binade = 2 ^ 52 := by decide
  unfold Format.nearest
  rw [if_neg h0]
  simp only [hf, hl, hb]
  obtain ⟨e, he⟩ : ∃ e : Nat, max (place + mag.log2 - (52 : Nat)) (-1074) = (e : Int) - 1074 := ⟨(max (place + mag.log2 - (52 : Nat)) (-1074) + 1074).toNat, by omega⟩
  rw [he, show ((e : Int) - 1074 - -1074).toNat = e from by omega]
  refine ⟨_, rfl, ?_⟩
  obtain ⟨up, hup⟩ : ∃ up, (place - ((e : Int) - 1074)).toNat = up := ⟨_, rfl⟩
  obtain ⟨drop, hdr⟩ : ∃ drop, ((e : Int) - 1074 - place).toNat = drop := ⟨_, rfl⟩
  rw [hup, hdr, Nat.shiftLeft_eq]
  have hlog : 2 ^ mag.log2 ≤ mag := Nat.log2_self_le h0
  have hlt : mag < 2 ^ (mag.log2 + 1) := Nat.lt_log2_self
  generalize hL : mag.log2 = L at *
  -- how what is cut lies
  have hk : Toward.even.cut neg (mag * 2 ^ up) drop ≤ 2 ^ 53 := by
    refine cut_le neg ?_
    have h1 : mag * 2 ^ up ≤ 2 ^ (L + 1) * 2 ^ up := Nat.mul_le_mul_right _ (Nat.le_of_lt hlt)
    refine Nat.le_trans h1 ?_
    rw [← Nat.pow_add, ← Nat.pow_add]
    exact Nat.pow_le_pow_right (by decide) (by omega)
  have hk2 : e = 0 ∨ 2 ^ 52 * 2 ^ drop ≤ mag * 2 ^ up := by
    by_cases h : e = 0
    · exact .inl h
    · right
      refine Nat.le_trans ?_ (Nat.mul_le_mul_right _ hlog)
      rw [← Nat.pow_add, ← Nat.pow_add]
      exact Nat.pow_le_pow_right (by decide) (by omega)
  have hV : V (e * 2 ^ 52 + Toward.even.cut neg (mag * 2 ^ up) drop) = Toward.even.cut neg (mag * 2 ^ up) drop * 2 ^ e := V_rung hk (hk2.imp id fun h => cut_ge neg h)
  intro s u r hu
  have hx : mag * 2 ^ up * (2 ^ e * 2 ^ s) = mag * 2 ^ u * 2 ^ drop := by
    rw [← Nat.pow_add, Nat.mul_assoc, Nat.mul_assoc, ← Nat.pow_add, ← Nat.pow_add, show up + (e + s) = u + drop from by omega]
  have hes : 0 < 2 ^ e * 2 ^ s := Nat.mul_pos (Nat.two_pow_pos e) (Nat.two_pow_pos s)
  have grid : (∃ q, V r = q * 2 ^ e) ∨ (V r < 2 ^ 52 * 2 ^ e ∧ 2 ^ 52 * 2 ^ drop ≤ mag * 2 ^ up) := by
    rcases hk2 with h | h
    · subst h; exact .inl ⟨V r, by simp⟩
    · exact (V_grid r e).imp id fun hq => ⟨hq, h⟩
  refine ⟨fun hle => V_le.1 ?_, fun hge => V_le.1 ?_⟩
  · rw [hV]
    rcases grid with ⟨q, hq⟩ | ⟨hq, h⟩
    · rw [hq]
      refine Nat.mul_le_mul_right _ (cut_le neg ?_)
      refine Nat.le_of_mul_le_mul_right ?_ hes
      rw [hx]
      refine Nat.le_trans (Nat.mul_le_mul_right _ hle) (Nat.le_of_eq ?_)
      rw [hq]
      ac_rfl
    · exfalso
      have h1 := Nat.mul_le_mul_right (2 ^ e * 2 ^ s) h
      rw [hx] at h1
      have h2 := Nat.mul_le_mul_right (2 ^ drop) hle
      have h3 : V r * 2 ^ s * 2 ^ drop < 2 ^ 52 * 2 ^ e * 2 ^ s * 2 ^ drop := Nat.mul_lt_mul_of_pos_right (Nat.mul_lt_mul_of_pos_right hq (Nat.two_pow_pos s)) (Nat.two_pow_pos drop)
      have h4 : 2 ^ 52 * 2 ^ e * 2 ^ s * 2 ^ drop = 2 ^ 52 * 2 ^ drop * (2 ^ e * 2 ^ s) := by ac_rfl
      omega
  · rw [hV]
    rcases grid with ⟨q, hq⟩ | ⟨hq, h⟩
    · rw [hq]
      refine Nat.mul_le_mul_right _ (cut_ge neg ?_)
      refine Nat.le_of_mul_le_mul_right ?_ hes
      rw [hx]
      refine Nat.le_trans (Nat.le_of_eq ?_) (Nat.mul_le_mul_right _ hge)
      rw [hq]
      ac_rfl
    · exact Nat.le_of_lt (Nat.lt_of_lt_of_le hq (Nat.mul_le_mul_right _ (cut_ge neg h)))

end Go.Proofs.Ytdliilmnfbgplaa.Rnd

/- Finite floats: an operation whose exact answer is bounded by a float answers a float that is bounded so. Plain laws, no program in sight. -/
namespace Go.Proofs.Ytdliilmnfbgplaa.Flo
open Ieee Go.Proofs.Ytdliilmnfbgplaa.Rnd

/-- The rung of a word: it, without its sign. -/
def rg (x : Nat) : Nat := x % 2 ^ 63
/-- Is the sign set? -/
def sg (x : Nat) : Bool := x / 2 ^ 63 % 2 == 1

def top : Nat := 2047 * 2 ^ 52
theorem top_is : D.infRung = top := by decide
theorem sw_is : D.signWeight = 2 ^ 63 := by decide
theorem bin_is : D.binade = 2 ^ 52 := by decide

theorem read_fin {x : Nat} (h : rg x < top) : ∃ (m e : Nat), D.read x = .number (sg x) m ((e : Int) - 1074) ∧ m * 2 ^ e = V (rg x) := by
  unfold Format.read
  simp only [sw_is, bin_is, top_is]
  have hl : D.leastPlace = -1074 := by decide
  change rg x < top at h
  by_cases h1 : rg x < 2 ^ 52
  · refine ⟨rg x, 0, ?_, by unfold V; rw [if_pos h1]; simp⟩
    unfold rg at *
    rw [if_pos h1, hl]
    simp [sg]
  · refine ⟨2 ^ 52 + rg x % 2 ^ 52, rg x / 2 ^ 52 - 1, ?_, by unfold V; rw [if_neg h1]⟩
    unfold rg at *
    rw [if_neg h1, if_pos h, hl]
    simp only [sg, Datum.number.injEq, true_and]
    omega

theorem rg_word (s : Bool) {r : Nat} (h : r ≤ top) : rg (D.word s r) = r := by
  unfold Format.word rg
  rw [sw_is]
  unfold top at h
  cases s
  · simp; omega
  · simp; omega

theorem sg_word (s : Bool) {r : Nat} (h : r ≤ top) : sg (D.word s r) = s := by
  unfold Format.word sg
  rw [sw_is]
  unfold top at h
  cases s
  · simp; omega
  · simp; omega

theorem V_zero : V 0 = 0 := by decide

/-- What is written of a number that two floats bound. -/
theorem write_le (s : Bool) (m : Nat) (p : Int) {r k u : Nat} (hu : (u : Int) = p + 1074 + k) (hr : r < top) (h : m * 2 ^ u ≤ V r * 2 ^ k) : ∃ r', D.write (.number s m p) = D.word s r' ∧ r' ≤ r := by
  by_cases h0 : m = 0
  · subst h0
    exact ⟨0, by simp [Format.write, Format.nearest], Nat.zero_le _⟩
  · obtain ⟨q, h1, h2⟩ := nearest_is s p h0
    have h3 := (h2 k u r hu).1 h
    refine ⟨q, ?_, h3⟩
    show D.nearest s m p = _
    rw [h1, top_is, Nat.min_eq_left (by omega)]

/-- .. and from below. -/
theorem write_ge (s : Bool) (m : Nat) (p : Int) {r k u : Nat} (hu : (u : Int) = p + 1074 + k) (hr : r ≤ top) (h : V r * 2 ^ k ≤ m * 2 ^ u) : ∃ r', D.write (.number s m p) = D.word s r' ∧ r ≤ r' ∧ r' ≤ top := by
  by_cases h0 : m = 0
  · subst h0
    have hp := Nat.two_pow_pos k
    have hv : V r = 0 := by
      rcases Nat.eq_zero_or_pos (V r) with h1 | h1
      · exact h1
      · have := Nat.mul_pos h1 hp; omega
    have : r ≤ 0 := V_le.1 (by rw [hv]; exact Nat.zero_le _)
    exact ⟨0, by simp [Format.write, Format.nearest], by omega, Nat.zero_le _⟩
  · obtain ⟨q, h1, h2⟩ := nearest_is s p h0
    have h3 := (h2 k u r hu).2 h
    refine ⟨min q top, ?_, by omega, by omega⟩
    show D.nearest s m p = _
    rw [h1, top_is]

/-- .. and if it is one. -/
theorem write_eq (s : Bool) (m : Nat) (p : Int) {r k u : Nat} (hu : (u : Int) = p + 1074 + k) (hr : r < top) (h : m * 2 ^ u = V r * 2 ^ k) : D.write (.number s m p) = D.word s r := by
  obtain ⟨a, h1, h2⟩ := write_le s m p hu hr (Nat.le_of_eq h)
  obtain ⟨b, h3, h4, h5⟩ := write_ge s m p hu (Nat.le_of_lt hr) (Nat.le_of_eq h.symm)
  have hab : a = b := by
    have := congrArg rg (h1.symm.trans h3)
    rwa [rg_word s (by omega), rg_word s h5] at this
  rw [h1]
  congr 1
  omega

theorem mul_le {x y r : Nat} (hx : rg x < top) (hy : rg y < top) (hr : r < top) (h : V (rg x) * V (rg y) ≤ V r * 2 ^ 1074) : ∃ z, D.mul x y = some z ∧ rg z ≤ r ∧ sg z = (sg x ^^ sg y) := by
  obtain ⟨m, e, h1, h2⟩ := read_fin hx
  obtain ⟨n, d, h3, h4⟩ := read_fin hy
  obtain ⟨q, h5, h6⟩ := write_le (sg x ^^ sg y) (m * n) ((e : Int) - 1074 + ((d : Int) - 1074)) (k := 1074) (u := e + d) (by omega) hr (by
    rw [Nat.pow_add, show m * n * (2 ^ e * 2 ^ d) = m * 2 ^ e * (n * 2 ^ d) from by ac_rfl, h2, h4]; exact h)
  refine ⟨_, by unfold Format.mul; rw [h1, h3]; rfl, ?_, ?_⟩
  · rw [h5, rg_word _ (by omega)]; exact h6
  · rw [h5, sg_word _ (by omega)]

theorem mul_leE {E : Nat} (hE : E = 1074) {x y r : Nat} (hx : rg x < top) (hy : rg y < top) (hr : r < top) (h : V (rg x) * V (rg y) ≤ V r * 2 ^ E) : ∃ z, D.mul x y = some z ∧ rg z ≤ r ∧ sg z = (sg x ^^ sg y) := by
  subst hE
  exact mul_le hx hy hr h

theorem signed_abs (s t : Bool) (a b : Nat) : (signed s a 0 + signed t b 0).natAbs ≤ a + b := by
  unfold signed
  cases s <;> cases t <;> simp <;> omega

theorem signed_shift (s : Bool) (m k : Nat) : signed s m k = signed s (m * 2 ^ k) 0 := by
  unfold signed
  rw [Nat.shiftLeft_eq, Nat.shiftLeft_eq, Nat.pow_zero, Nat.mul_one]

theorem abs_mul (a : Int) (k : Nat) : a.natAbs * 2 ^ k = (a * (2 ^ k : Nat)).natAbs := by rw [Int.natAbs_mul, Int.natAbs_natCast]

theorem signed_mul (s : Bool) (m k : Nat) : signed s m 0 * ((2 ^ k : Nat) : Int) = signed s (m * 2 ^ k) 0 := by
  unfold signed
  cases s <;> simp [Int.neg_mul]

theorem sum_le {s t : Bool} {m n e d r : Nat} (hr : r < top) (h : m * 2 ^ e + n * 2 ^ d ≤ V r) :
    ∃ z u, Datum.sum (.number s m ((e : Int) - 1074)) (.number t n ((d : Int) - 1074)) = some u ∧ D.write u = z ∧ rg z ≤ r := by
  obtain ⟨b, hb⟩ : ∃ b : Nat, min ((e : Int) - 1074) ((d : Int) - 1074) = (b : Int) - 1074 := ⟨min e d, by omega⟩
  refine ⟨_, _, rfl, rfl, ?_⟩
  rw [hb, show ((e : Int) - 1074 - ((b : Int) - 1074)).toNat = e - b from by omega, show ((d : Int) - 1074 - ((b : Int) - 1074)).toNat = d - b from by omega, signed_shift s, signed_shift t]
  have hk : ((signed s (m * 2 ^ (e - b)) 0 + signed t (n * 2 ^ (d - b)) 0)).natAbs * 2 ^ b ≤ V r * 2 ^ 0 := by
    rw [abs_mul, Int.add_mul, signed_mul, signed_mul, Nat.mul_assoc, Nat.mul_assoc, ← Nat.pow_add, ← Nat.pow_add, show e - b + b = e from by omega, show d - b + b = d from by omega]
    exact Nat.le_trans (signed_abs _ _ _ _) (by omega)
  obtain ⟨q, h5, h6⟩ := write_le (if signed s (m * 2 ^ (e - b)) 0 + signed t (n * 2 ^ (d - b)) 0 = 0 then s && t else signed s (m * 2 ^ (e - b)) 0 + signed t (n * 2 ^ (d - b)) 0 < 0) _ ((b : Int) - 1074) (k := 0) (u := b) (by omega) hr hk
  rw [h5, rg_word _ (by omega)]
  exact h6

theorem add_le {x y r : Nat} (hx : rg x < top) (hy : rg y < top) (hr : r < top) (h : V (rg x) + V (rg y) ≤ V r) : ∃ z, D.add x y = some z ∧ rg z ≤ r := by
  obtain ⟨m, e, h1, h2⟩ := read_fin hx
  obtain ⟨n, d, h3, h4⟩ := read_fin hy
  obtain ⟨z, u, h5, h6, h7⟩ := sum_le (s := sg x) (t := sg y) (m := m) (n := n) (e := e) (d := d) hr (by rw [h2, h4]; exact h)
  exact ⟨z, by unfold Format.add; rw [h1, h3, h5]; simp [h6], h7⟩

theorem sub_le {x y r : Nat} (hx : rg x < top) (hy : rg y < top) (hr : r < top) (h : V (rg x) + V (rg y) ≤ V r) : ∃ z, D.sub x y = some z ∧ rg z ≤ r := by
  obtain ⟨m, e, h1, h2⟩ := read_fin hx
  obtain ⟨n, d, h3, h4⟩ := read_fin hy
  obtain ⟨z, u, h5, h6, h7⟩ := sum_le (s := sg x) (t := !sg y) (m := m) (n := n) (e := e) (d := d) hr (by rw [h2, h4]; exact h)
  exact ⟨z, by unfold Format.sub; rw [h1, h3]; show Option.map D.write (Datum.sum _ (Datum.number (!sg y) n _)) = _; rw [h5]; simp [h6], h7⟩

theorem log2_lt {m b : Nat} (h : m < 2 ^ b) (hb : 0 < b) : m.log2 < b := by
  by_cases h0 : m = 0
  · subst h0; simpa using hb
  · exact (Nat.log2_lt h0).2 h

theorem mag_lt {x : Nat} (h : rg x < top) {m e : Nat} (h1 : D.read x = .number (sg x) m ((e : Int) - 1074)) (h2 : m * 2 ^ e = V (rg x)) : m < 2 ^ 53 := by
  obtain ⟨m', e', h3, h4⟩ := read_fin h
  rw [h3] at h1
  simp only [Datum.number.injEq, true_and] at h1
  obtain ⟨rfl, he⟩ := h1
  have hl : D.leastPlace = -1074 := by decide
  unfold Format.read at h3
  simp only [sw_is, bin_is, top_is] at h3
  split at h3
  · simp only [Datum.number.injEq] at h3
    omega
  · rw [if_pos (by unfold rg at h; exact h)] at h3
    simp only [Datum.number.injEq] at h3
    omega

theorem pw (E t d more : Nat) : 2 ^ (t + d + more + 1) * 2 ^ E = 2 ^ (E + t) * 2 ^ (d + more + 1) := by
  rw [← Nat.pow_add, ← Nat.pow_add]
  congr 1
  omega

/-- A quotient that is at most 2 ^ t. -/
theorem div_le {x y r t : Nat} (hx : rg x < top) (hy : rg y < top) (h0 : 0 < rg y) (hr : r < top) (hV : V r = 2 ^ (1074 + t)) (h : V (rg x) ≤ 2 ^ t * V (rg y)) : ∃ z, D.div x y = some z ∧ rg z ≤ r ∧ sg z = (sg x ^^ sg y) := by
  obtain ⟨m, e, h1, h2⟩ := read_fin hx
  obtain ⟨n, d, h3, h4⟩ := read_fin hy
  have hm := mag_lt hx h1 h2
  have hVy : 0 < V (rg y) := by have := V_lt h0; omega
  have hn : n ≠ 0 := by rintro rfl; rw [Nat.zero_mul] at h4; omega
  have hlm : m.log2 < 53 := log2_lt hm (by decide)
  obtain ⟨more, hmo⟩ : ∃ more, 52 + 2 + n.log2 - m.log2 = more := ⟨_, rfl⟩
  have hq : Datum.quotient 54 (.number (sg x) m ((e : Int) - 1074)) (.number (sg y) n ((d : Int) - 1074)) =
      some (.number (sg x ^^ sg y) (2 * (m <<< more / n) + (m <<< more % n != 0).toNat) (((e : Int) - 1074) - ((d : Int) - 1074) - more - 1)) := by
    unfold Datum.quotient
    simp only [if_neg hn]
    rw [← hmo]
  have hb : (2 * (m <<< more / n) + (m <<< more % n != 0).toNat) * 2 ^ e ≤ 2 ^ (t + d + more + 1) := by
    rw [Nat.shiftLeft_eq]
    have hle : m * 2 ^ more * 2 ^ e ≤ n * 2 ^ (t + d + more) := by
      have h5 := Nat.mul_le_mul_right (2 ^ more) (h2 ▸ h4 ▸ h : m * 2 ^ e ≤ 2 ^ t * (n * 2 ^ d))
      rw [show n * 2 ^ (t + d + more) = 2 ^ t * (n * 2 ^ d) * 2 ^ more from by rw [Nat.pow_add, Nat.pow_add]; ac_rfl]
      exact Nat.le_trans (Nat.le_of_eq (by ac_rfl)) h5
    by_cases he : e ≤ t + d + more
    · obtain ⟨K, hK⟩ : ∃ K, 2 ^ (t + d + more - e) = K := ⟨_, rfl⟩
      have hKe : 2 ^ (t + d + more) = K * 2 ^ e := by rw [← hK, ← Nat.pow_add, Nat.sub_add_cancel he]
      have h6 : m * 2 ^ more ≤ n * K := by
        refine Nat.le_of_mul_le_mul_right ?_ (Nat.two_pow_pos e)
        rw [Nat.mul_assoc n, ← hKe]
        exact hle
      have h7 : 2 * (m * 2 ^ more / n) + (m * 2 ^ more % n != 0).toNat ≤ 2 * K := by
        generalize m * 2 ^ more = q at *
        have h8 := Nat.div_add_mod q n
        by_cases h9 : q / n < K
        · have : (q % n != 0).toNat ≤ 1 := by cases (q % n != 0) <;> decide
          omega
        · have h10 : n * K ≤ n * (q / n) := Nat.mul_le_mul_left _ (by omega)
          have h11 : q % n = 0 := by omega
          have h12 : q / n ≤ K := Nat.div_le_of_le_mul h6
          have h13 : (q % n != 0).toNat = 0 := by rw [h11]; rfl
          omega
      refine Nat.le_trans (Nat.mul_le_mul_right _ h7) ?_
      rw [Nat.pow_succ 2 (t + d + more), hKe]
      exact Nat.le_of_eq (by ac_rfl)
    · by_cases hm0 : m = 0
      · subst hm0; simp
      · exfalso
        have h5 : 2 ^ m.log2 ≤ m := Nat.log2_self_le hm0
        have h6 : n < 2 ^ (n.log2 + 1) := Nat.lt_log2_self
        have h7 : 2 ^ (n.log2 + 1) ≤ m * 2 ^ more := by
          refine Nat.le_trans ?_ (Nat.mul_le_mul_right _ h5)
          rw [← Nat.pow_add]
          exact Nat.pow_le_pow_right (by decide) (by omega)
        have h8 : n * 2 ^ (t + d + more) ≤ n * 2 ^ e := Nat.mul_le_mul_left _ (Nat.pow_le_pow_right (by decide) (by omega))
        have h9 : m * 2 ^ more ≤ n := Nat.le_of_mul_le_mul_right (Nat.le_trans hle h8) (Nat.two_pow_pos e)
        omega
  have key : ∀ E : Nat, V r = 2 ^ (E + t) → (2 * (m <<< more / n) + (m <<< more % n != 0).toNat) * 2 ^ (e + E) ≤ V r * 2 ^ (d + more + 1) := by
    intro E hE
    rw [hE, Nat.pow_add 2 e, ← Nat.mul_assoc]
    exact Nat.le_trans (Nat.mul_le_mul_right _ hb) (Nat.le_of_eq (pw E t d more))
  obtain ⟨q, h5, h6⟩ := write_le (sg x ^^ sg y) (2 * (m <<< more / n) + (m <<< more % n != 0).toNat) (((e : Int) - 1074) - ((d : Int) - 1074) - more - 1) (k := d + more + 1) (u := e + 1074) (by omega) hr (key _ hV)
  refine ⟨_, by unfold Format.div; rw [h1, h3]; show Option.map D.write (Datum.quotient 54 _ _) = _; rw [hq]; rfl, ?_, ?_⟩
  · rw [h5, rg_word _ (by omega)]; exact h6
  · rw [h5, sg_word _ (by omega)]

theorem div_leE {E : Nat} (hE : E = 1074) {x y r t : Nat} (hx : rg x < top) (hy : rg y < top) (h0 : 0 < rg y) (hr : r < top) (hV : V r = 2 ^ t * 2 ^ E) (h : V (rg x) ≤ 2 ^ t * V (rg y)) : ∃ z, D.div x y = some z ∧ rg z ≤ r ∧ sg z = (sg x ^^ sg y) := by
  refine div_le hx hy h0 hr ?_ h
  rw [← hE, hV, Nat.pow_add, Nat.mul_comm]

/-- Divided by a power of two, exactly. -/
theorem div_pow {x y r k : Nat} (hx : rg x < top) (hy : D.read y = .number false (2 ^ 52) ((k : Int) - 52)) (hr : r < top) (h : V (rg x) = V r * 2 ^ k) : D.div x y = some (D.word (sg x) r) := by
  obtain ⟨m, e, h1, h2⟩ := read_fin hx
  have hm := mag_lt hx h1 h2
  have hlm : m.log2 < 53 := log2_lt hm (by decide)
  obtain ⟨more, hmo⟩ : ∃ more, 52 + 2 + 52 - m.log2 = more := ⟨_, rfl⟩
  have hq : Datum.quotient 54 (.number (sg x) m ((e : Int) - 1074)) (.number false (2 ^ 52) ((k : Int) - 52)) =
      some (.number (sg x) (2 * (m * 2 ^ (more - 52))) (((e : Int) - 1074) - ((k : Int) - 52) - more - 1)) := by
    unfold Datum.quotient
    have hl : (2 ^ 52 : Nat).log2 = 52 := by decide +kernel
    simp only [if_neg (show (2 ^ 52 : Nat) ≠ 0 from by decide), hl, Bool.xor_false]
    rw [show 54 + 52 - m.log2 = more from hmo, Nat.shiftLeft_eq]
    have hs : m * 2 ^ more = m * 2 ^ (more - 52) * 2 ^ 52 := by rw [Nat.mul_assoc, ← Nat.pow_add, show more - 52 + 52 = more from by omega]
    rw [hs, Nat.mul_div_cancel _ (by decide), Nat.mul_mod_left]
    rfl
  have hw := write_eq (sg x) (2 * (m * 2 ^ (more - 52))) (((e : Int) - 1074) - ((k : Int) - 52) - more - 1) (k := k + more + 1) (u := e + 52) (by omega) hr (by
    rw [show 2 * (m * 2 ^ (more - 52)) * 2 ^ (e + 52) = m * 2 ^ e * 2 ^ (more + 1) from by
      rw [show 2 * (m * 2 ^ (more - 52)) * 2 ^ (e + 52) = m * 2 ^ e * (2 ^ 1 * 2 ^ (more - 52) * 2 ^ 52) from by rw [Nat.pow_add 2 e, Nat.pow_one]; ac_rfl]
      rw [← Nat.pow_add, ← Nat.pow_add, show 1 + (more - 52) + 52 = more + 1 from by omega], h2, h, Nat.mul_assoc, ← Nat.pow_add, Nat.add_assoc])
  unfold Format.div
  rw [h1, hy]
  show Option.map D.write (Datum.quotient 54 _ _) = _
  rw [hq]
  simp [hw]

end Go.Proofs.Ytdliilmnfbgplaa.Flo

/- Finite floats: how two stand to each other; whole numbers as floats, and back. Plain laws, no program in sight. -/
namespace Go.Proofs.Ytdliilmnfbgplaa.Flc
open Ieee Go.Proofs.Ytdliilmnfbgplaa.Rnd Go.Proofs.Ytdliilmnfbgplaa.Flo

theorem compare_mul (a b : Int) {k : Nat} : compare (a * (2 ^ k : Nat)) (b * (2 ^ k : Nat)) = compare a b := by
  have hp : (0 : Int) < ((2 ^ k : Nat) : Int) := by have := Nat.two_pow_pos k; omega
  have h1 : a * ((2 ^ k : Nat) : Int) < b * ((2 ^ k : Nat) : Int) ↔ a < b := ⟨fun h => Int.lt_of_mul_lt_mul_right h (Int.le_of_lt hp), fun h => Int.mul_lt_mul_of_pos_right h hp⟩
  have h2 : a * ((2 ^ k : Nat) : Int) = b * ((2 ^ k : Nat) : Int) ↔ a = b := ⟨fun h => Int.eq_of_mul_eq_mul_right (by omega) h, fun h => by rw [h]⟩
  simp only [compare, compareOfLessAndEq, h1, h2]

theorem order_fin {x y : Nat} (hx : rg x < top) (hy : rg y < top) : D.order x y = some (compare (signed (sg x) (V (rg x)) 0) (signed (sg y) (V (rg y)) 0)) := by
  obtain ⟨m, e, h1, h2⟩ := read_fin hx
  obtain ⟨n, d, h3, h4⟩ := read_fin hy
  unfold Format.order
  rw [h1, h3]
  unfold Datum.order
  obtain ⟨b, hb⟩ : ∃ b : Nat, min ((e : Int) - 1074) ((d : Int) - 1074) = (b : Int) - 1074 := ⟨min e d, by omega⟩
  simp only [hb]
  rw [show ((e : Int) - 1074 - ((b : Int) - 1074)).toNat = e - b from by omega, show ((d : Int) - 1074 - ((b : Int) - 1074)).toNat = d - b from by omega, signed_shift (sg x) m, signed_shift (sg y) n,
    ← compare_mul (k := b), signed_mul, signed_mul, Nat.mul_assoc, Nat.mul_assoc, ← Nat.pow_add, ← Nat.pow_add, show e - b + b = e from by omega, show d - b + b = d from by omega, h2, h4]

/-- The place of the last digit of the least float, turned round. -/
def bias : Nat := 1074
theorem bias_is : bias = 1074 := rfl

/-- A whole number below 2 ^ 53 is a float: its rung. -/
def nr (n : Nat) : Nat := if n = 0 then 0 else (1022 + n.log2) * 2 ^ 52 + n * 2 ^ (52 - n.log2)

theorem V_nr {n : Nat} (h : n < 2 ^ 53) : V (nr n) = n * 2 ^ bias ∧ nr n < top := by
  unfold nr
  by_cases h0 : n = 0
  · subst h0; exact ⟨by rw [if_pos rfl]; simp [V_zero], by decide⟩
  · rw [if_neg h0]
    have hl : n.log2 < 53 := log2_lt h (by decide)
    have h1 : 2 ^ n.log2 ≤ n := Nat.log2_self_le h0
    have h2 : n < 2 ^ (n.log2 + 1) := Nat.lt_log2_self
    have h3 : 2 ^ 52 ≤ n * 2 ^ (52 - n.log2) := by
      have := Nat.mul_le_mul_right (2 ^ (52 - n.log2)) h1
      rwa [← Nat.pow_add, show n.log2 + (52 - n.log2) = 52 from by omega] at this
    have h4 : n * 2 ^ (52 - n.log2) ≤ 2 ^ 53 := by
      have := Nat.mul_le_mul_right (2 ^ (52 - n.log2)) (Nat.le_of_lt h2)
      rwa [← Nat.pow_add, show n.log2 + 1 + (52 - n.log2) = 53 from by omega] at this
    constructor
    · rw [V_rung h4 (.inr h3), Nat.mul_assoc, ← Nat.pow_add, show 52 - n.log2 + (1022 + n.log2) = bias from by rw [bias_is]; omega]
    · unfold top
      omega

theorem nearest_int (z : Int) (h : z.natAbs < 2 ^ 53) : FloatKind.f64.nearest z = D.word (decide (z < 0)) (nr z.natAbs) := by
  obtain ⟨h1, h2⟩ := V_nr h
  exact write_eq (decide (z < 0)) z.natAbs 0 (k := 0) (u := bias) (by rw [bias_is]; omega) h2 (by rw [h1]; simp)

theorem rg_int (z : Int) (h : z.natAbs < 2 ^ 53) : rg (FloatKind.f64.nearest z) = nr z.natAbs ∧ sg (FloatKind.f64.nearest z) = decide (z < 0) := by
  obtain ⟨h1, h2⟩ := V_nr h
  rw [nearest_int z h]
  exact ⟨rg_word _ (Nat.le_of_lt h2), sg_word _ (Nat.le_of_lt h2)⟩

theorem nr_le {a b : Nat} (ha : a < 2 ^ 53) (hb : b < 2 ^ 53) : nr a ≤ nr b ↔ a ≤ b := by
  rw [← V_le, (V_nr ha).1, (V_nr hb).1]
  have := Nat.two_pow_pos bias
  exact ⟨fun h => Nat.le_of_mul_le_mul_right h this, fun h => Nat.mul_le_mul_right _ h⟩

theorem pw2 (n : Nat) {E up dr e : Nat} (h : E + up = dr + e) : n * 2 ^ E * 2 ^ up = 2 ^ dr * n * 2 ^ e := by
  rw [Nat.mul_assoc, ← Nat.pow_add, h, Nat.pow_add]
  ac_rfl

/-- A float that is at most n (n below 2 ^ 53) and not below zero, made whole. -/
theorem toInt_le {x n : Nat} (hx : rg x ≤ nr n) (hn : n < 2 ^ 53) (hs : sg x = false ∨ rg x = 0) : ∃ k : Nat, (D.read x).toInt .zero = some (k : Int) ∧ k ≤ n := by
  obtain ⟨h1, h2⟩ := V_nr hn
  have hf : rg x < top := by omega
  obtain ⟨m, e, h3, h4⟩ := read_fin hf
  have hle : m * 2 ^ e ≤ n * 2 ^ bias := by rw [h4, ← h1]; exact V_le.2 hx
  rw [h3]
  unfold Datum.toInt Datum.integral Toward.cut
  simp only [Nat.shiftLeft_eq, Nat.one_mul, Bool.toNat_false, Nat.add_zero]
  obtain ⟨up, hup⟩ : ∃ up, ((e : Int) - 1074).toNat = up := ⟨_, rfl⟩
  obtain ⟨dr, hdr⟩ : ∃ dr, (-((e : Int) - 1074)).toNat = dr := ⟨_, rfl⟩
  rw [hup, hdr]
  have hk : m * 2 ^ up / 2 ^ min dr ((m * 2 ^ up).log2 + 2) ≤ n := by
    by_cases hd : dr ≤ (m * 2 ^ up).log2 + 2
    · rw [Nat.min_eq_left hd]
      refine Nat.div_le_of_le_mul ?_
      refine Nat.le_of_mul_le_mul_right ?_ (Nat.two_pow_pos e)
      rw [show m * 2 ^ up * 2 ^ e = m * 2 ^ e * 2 ^ up from by ac_rfl]
      refine Nat.le_trans (Nat.mul_le_mul_right _ hle) (Nat.le_of_eq ?_)
      exact pw2 n (by rw [bias_is]; omega)
    · rw [Nat.min_eq_right (by omega), Nat.div_eq_of_lt]
      · exact Nat.zero_le _
      · exact Nat.lt_of_lt_of_le Nat.lt_log2_self (Nat.pow_le_pow_right (by decide) (by omega))
  refine ⟨m * 2 ^ up / 2 ^ min dr ((m * 2 ^ up).log2 + 2), ?_, hk⟩
  rcases hs with hs | hs
  · rw [hs]
    simp [signed]
  · rw [hs, V_zero] at h4
    have hm : m = 0 := by
      rcases Nat.eq_zero_or_pos m with h | h
      · exact h
      · have := Nat.mul_pos h (Nat.two_pow_pos e); omega
    subst hm
    simp [signed]

end Go.Proofs.Ytdliilmnfbgplaa.Flc

/- Operations on floats and complex numbers whose answer is known: laws for the walk. Over any program. -/
namespace Go.Proofs.Ytdliilmnfbgplaa.Fd
open Go

def fdraw (P : Program) (w : World) (x y : Nat) (o : Option Nat) : Result Value :=
  match o with
  | some r => .ok (.float .f64 r) w
  | none => (Sem.bind (choose (.nanBits .f64 x y)) fun r => pure (.float .f64 r)).run P w

section
variable {P : Program} (w : World) (t : TypeId) (x y : Nat)

@[go_sem] theorem fdraw_some (r : Nat) : fdraw P w x y (some r) = .ok (.float .f64 r) w := rfl

@[go_sem] theorem run_fadd : (binOp .add t (.float .f64 x) (.float .f64 y)).run P w = fdraw P w x y (FloatKind.f64.format.add x y) := by
  have h : binOp .add t (.float .f64 x) (.float .f64 y) = Op.floatArith .add .f64 x y := by simp [binOp]
  rw [h]
  unfold Op.floatArith fdraw
  cases FloatKind.f64.format.add x y <;> rfl
@[go_sem] theorem run_fsub : (binOp .sub t (.float .f64 x) (.float .f64 y)).run P w = fdraw P w x y (FloatKind.f64.format.sub x y) := by
  have h : binOp .sub t (.float .f64 x) (.float .f64 y) = Op.floatArith .sub .f64 x y := by simp [binOp]
  rw [h]
  unfold Op.floatArith fdraw
  cases FloatKind.f64.format.sub x y <;> rfl
@[go_sem] theorem run_fmul : (binOp .mul t (.float .f64 x) (.float .f64 y)).run P w = fdraw P w x y (FloatKind.f64.format.mul x y) := by
  have h : binOp .mul t (.float .f64 x) (.float .f64 y) = Op.floatArith .mul .f64 x y := by simp [binOp]
  rw [h]
  unfold Op.floatArith fdraw
  cases FloatKind.f64.format.mul x y <;> rfl
@[go_sem] theorem run_fdiv : (binOp .quo t (.float .f64 x) (.float .f64 y)).run P w = fdraw P w x y (FloatKind.f64.format.div x y) := by
  have h : binOp .quo t (.float .f64 x) (.float .f64 y) = Op.floatArith .quo .f64 x y := by simp [binOp]
  rw [h]
  unfold Op.floatArith fdraw
  cases FloatKind.f64.format.div x y <;> rfl

/-- A product of complex numbers, each of its six operations known. -/
theorem run_cmul {a b c d p q r s e f : Nat} (h1 : FloatKind.f64.format.mul a c = some p) (h2 : FloatKind.f64.format.mul b d = some q) (h3 : FloatKind.f64.format.mul a d = some r) (h4 : FloatKind.f64.format.mul b c = some s)
    (h5 : FloatKind.f64.format.sub p q = some e) (h6 : FloatKind.f64.format.add r s = some f) : (binOp .mul t (.complex .f64 a b) (.complex .f64 c d)).run P w = .ok (.complex .f64 e f) w := by
  have h : binOp .mul t (.complex .f64 a b) (.complex .f64 c d) = Op.complexOp .mul .f64 a b c d := by simp [binOp]
  rw [h]
  have ar : ∀ {op : BinOp} {x y z : Nat} (hh : Op.floatArith op .f64 x y = pure (.float .f64 z)), Op.Complex.arith op .f64 x y = pure z := by
    intro op x y z hh
    unfold Op.Complex.arith
    rw [hh]
    rfl
  have e1 : Op.Complex.mul a c = pure p := ar (by simp [Op.floatArith, h1])
  have e2 : Op.Complex.mul b d = pure q := ar (by simp [Op.floatArith, h2])
  have e3 : Op.Complex.mul a d = pure r := ar (by simp [Op.floatArith, h3])
  have e4 : Op.Complex.mul b c = pure s := ar (by simp [Op.floatArith, h4])
  have e5 : Op.Complex.sub p q = pure e := ar (by simp [Op.floatArith, h5])
  have e6 : Op.Complex.add r s = pure f := ar (by simp [Op.floatArith, h6])
  simp [Op.complexOp, Op.Complex.conv, Op.Complex.product, e1, e2, e3, e4, e5, e6]

end
end Go.Proofs.Ytdliilmnfbgplaa.Fd

/- Lists that lie in memory: a slice that reads as a list; rows that the call itself has made; a frame by the rows' types. Plain laws over any program. -/
namespace Go.Proofs.Ytdliilmnfbgplaa.Rd
open Go Go.RowKit Go.Proofs.Ytdliilmnfbgplaa.Hp

/-! ### a frame: below block B, and in rows of other types than S, nothing has turned -/

structure Gr (B : Nat) (S : List TypeId) (w w' : World) : Prop where
  os : w'.os = w.os
  tape : w'.tape = w.tape
  output : w'.output = w.output
  size : w.heap.size ≤ w'.heap.size
  block : ∀ k, k < w.heap.size → (k < B ∨ ∀ c e z, w.heap[k]? = some (.cells c e z) → e ∉ S) → w'.heap[k]? = w.heap[k]?

section
variable {B : Nat} {S : List TypeId} {a b c : World}

theorem Gr.refl (B : Nat) (S : List TypeId) (w : World) : Gr B S w w := ⟨rfl, rfl, rfl, Nat.le_refl _, fun _ _ _ => rfl⟩

theorem Gr.trans (h : Gr B S a b) (k : Gr B S b c) : Gr B S a c :=
  ⟨k.os.trans h.os, k.tape.trans h.tape, k.output.trans h.output, Nat.le_trans h.size k.size, fun i hi hr => by
    have e := h.block i hi hr
    rw [k.block i (Nat.lt_of_lt_of_le hi h.size) (by rw [e]; exact hr)]
    exact e⟩

theorem Gr.of_none (h : a.grownBy b none) : Gr B S a b := ⟨h.os, h.tape, h.output, h.size, fun i hi _ => h.block i hi (by simp)⟩

theorem Gr.of_some {k : Nat} {cs : Array Value} {e : TypeId} {z : Nat × Nat} (h : a.grownBy b (some k)) (hk : a.heap[k]? = some (.cells cs e z)) (he : e ∈ S) (hB : B ≤ k) : Gr B S a b :=
  ⟨h.os, h.tape, h.output, h.size, fun i hi hr => h.block i hi (by
    intro hik
    simp only [Option.some.injEq] at hik
    subst hik
    rcases hr with hr | hr
    · omega
    · exact hr _ _ _ hk he)⟩

/-- .. of what is written lies behind all that was there. -/
theorem Gr.of_new {k : Nat} (h : a.grownBy b (some k)) (hk : a.heap.size ≤ k) : Gr B S a b := .of_none (grown_new h hk)

theorem Gr.of_row {r : Option Nat} {e : TypeId} (h : a.grownBy b r) (hr : ∀ k, r = some k → B ≤ k ∧ (a.heap.size ≤ k ∨ ∃ c z, a.heap[k]? = some (.cells c e z))) (he : e ∈ S) : Gr B S a b := by
  cases r with
  | none => exact .of_none h
  | some k =>
    obtain ⟨h1, h2 | ⟨c, z, h2⟩⟩ := hr k rfl
    · exact .of_new h h2
    · exact .of_some h h2 he h1

theorem Gr.drewN (h : Gr B S a b) (n : Nat) : Gr B S a (b.drewN n) := ⟨h.os, h.tape, h.output, h.size, h.block⟩
theorem Gr.drew (h : Gr B S a b) : Gr B S a b.drew := ⟨h.os, h.tape, h.output, h.size, h.block⟩
theorem Gr.alloc (h : Gr B S a b) (o : Obj) : Gr B S a (b.alloc o) := h.trans (.of_none (grown_alloc (grown_refl _ _) o))

theorem Gr.set (h : Gr B S a b) {p : Addr} {cs : Array Value} {e : TypeId} {z : Nat × Nat} (hk : b.heap[p.block]? = some (.cells cs e z)) (he : e ∈ S) (hB : B ≤ p.block) (v : Value) : Gr B S a (b.setCell p v) :=
  h.trans (.of_some (grown_set (grown_refl b (some p.block)) (.inl rfl) v) hk he hB)

/-- Seen from where the call began: all that was there is as it was. -/
theorem Gr.none (h : Gr a.heap.size S a b) : a.grownBy b none := ⟨h.os, h.tape, h.output, h.size, fun i hi _ => h.block i hi (.inl hi)⟩

theorem Gr.keep (h : Gr B S a b) {k : Nat} {cs : Array Value} {e : TypeId} {z : Nat × Nat} (hk : a.heap[k]? = some (.cells cs e z)) (he : e ∉ S) : b.heap[k]? = some (.cells cs e z) := by
  rw [h.block k (lt_of hk) (.inr fun c' e' z' h' => by rw [hk] at h'; cases h'; exact he)]
  exact hk

theorem Gr.old (h : Gr B S a b) {k : Nat} {o : Obj} (hk : a.heap[k]? = some o) (hB : k < B) : b.heap[k]? = some o := by
  rw [h.block k (lt_of hk) (.inl hB)]
  exact hk

theorem Gr.more {S' : List TypeId} (h : Gr B S a b) (hs : ∀ e, e ∈ S → e ∈ S') : Gr B S' a b :=
  ⟨h.os, h.tape, h.output, h.size, fun i hi hr => h.block i hi (hr.imp id fun hr c e z hk hm => hr c e z hk (hs e hm))⟩
end

/-! ### a slice that reads as a list -/

section
variable {α : Type}

/-- The slice v reads as the list xs, each element by R, one cell each. -/
def Sl (R : World → Value → α → Prop) (w : World) (v : Value) (xs : List α) : Prop :=
  (∃ b off cap, v = .slice (some ⟨b, off, none⟩) xs.length cap ∧ ∀ i x, xs[i]? = some x → ∃ u, w.cell? ⟨b, off + i, none⟩ = some u ∧ R w u x) ∨ (∃ ao cap, v = .slice ao 0 cap ∧ xs = [])

theorem Sl.grown {R : World → Value → α → Prop} {w w' : World} {v : Value} {xs : List α} (h : Sl R w v xs) (hg : w.grownBy w' none) (hR : ∀ u x, R w u x → R w' u x) : Sl R w' v xs := by
  rcases h with ⟨b, off, cap, rfl, h⟩ | h
  · exact .inl ⟨b, off, cap, rfl, fun i x hx => let ⟨u, hu, hr⟩ := h i x hx; ⟨u, hg.cell hu (by simp), hR _ _ hr⟩⟩
  · exact .inr h

theorem Sl.imp {R R' : World → Value → α → Prop} {w : World} {v : Value} {xs : List α} (h : Sl R w v xs) (hR : ∀ u x, R w u x → R' w u x) : Sl R' w v xs := by
  rcases h with ⟨b, off, cap, rfl, h⟩ | h
  · exact .inl ⟨b, off, cap, rfl, fun i x hx => let ⟨u, hu, hr⟩ := h i x hx; ⟨u, hu, hR _ _ hr⟩⟩
  · exact .inr h

/-- .. its address open. -/
theorem sl_open {R : World → Value → α → Prop} {w : World} {v : Value} {xs : List α} (h : Sl R w v xs) : ∃ ao cap, v = .slice ao xs.length cap ∧ ∀ (i : Nat) (x : α), xs[i]? = some x → ∃ b off u, ao = some ⟨b, off, none⟩ ∧ w.cell? ⟨b, off + i, none⟩ = some u ∧ R w u x := by
  rcases h with ⟨b, off, cap, rfl, h⟩ | ⟨ao, cap, rfl, rfl⟩
  · exact ⟨some ⟨b, off, none⟩, cap, rfl, fun i x hx => let ⟨u, h1, h2⟩ := h i x hx; ⟨b, off, u, rfl, h1, h2⟩⟩
  · exact ⟨ao, cap, rfl, fun i x hx => by simp at hx⟩

/-- A slice of floats. -/
def Fls : World → Value → List Nat → Prop := Sl fun _ u x => u = .float .f64 x
/-- A slice of slices of floats. -/
def Lls : World → Value → List (List Nat) → Prop := Sl Fls
/-- A slice of ints. -/
def Ils : World → Value → List Int → Prop := Sl fun _ u x => u = .int .i64 x

theorem Fls.grown {w w' : World} {v : Value} {xs : List Nat} (h : Fls w v xs) (hg : w.grownBy w' none) : Fls w' v xs := Sl.grown h hg fun _ _ h => h
theorem Ils.grown {w w' : World} {v : Value} {xs : List Int} (h : Ils w v xs) (hg : w.grownBy w' none) : Ils w' v xs := Sl.grown h hg fun _ _ h => h
theorem Lls.grown {w w' : World} {v : Value} {xs : List (List Nat)} (h : Lls w v xs) (hg : w.grownBy w' none) : Lls w' v xs := Sl.grown h hg fun _ _ h => h.grown hg

end

/-! ### a row of floats that the call has made -/

/-- v is a slice over the whole of a new row of type t that holds just these. -/
def Own (t : TypeId) (w : World) (v : Value) (cs : List Value) : Prop := ∃ g, v = .slice (some ⟨g, 0, none⟩) cs.length cs.length ∧ w.heap[g]? = some (.cells cs.toArray t (0, 0))

theorem Own.gr {B : Nat} {S : List TypeId} {t : TypeId} {w w' : World} {v : Value} {cs : List Value} (h : Own t w v cs) (hg : Gr B S w w') (ht : t ∉ S) : Own t w' v cs :=
  let ⟨g, h1, h2⟩ := h; ⟨g, h1, hg.keep h2 ht⟩

theorem Own.fls {t : TypeId} {w : World} {v : Value} {ys : List Nat} (h : Own t w v (ys.map (Value.float .f64))) : Fls w v ys := by
  obtain ⟨g, rfl, h2⟩ := h
  refine .inl ⟨g, 0, (ys.map (Value.float .f64)).length, by simp, fun i x hx => ⟨.float .f64 x, ?_, rfl⟩⟩
  rw [cell_of h2]
  simp [hx]

/-- What is owned, as cells. -/
theorem owns_cells {w : World} {base : Nat} {e : TypeId} {v : Value} {n : Nat} {xs : List Value} (h : w.ownsRow base e 1 v n xs) :
    (v = .slice none 0 0 ∧ n = 0 ∧ xs = []) ∨ ∃ g cap, v = .slice (some ⟨g, 0, none⟩) n cap ∧ base ≤ g ∧ n ≤ cap ∧ (∃ c, w.heap[g]? = some (.cells c e (0, 0))) ∧ ∀ i x, xs[i]? = some x → w.cell? ⟨g, i, none⟩ = some x := by
  obtain ⟨h1, ⟨h2, h3⟩ | ⟨g, cap, cur, hv, hb, hg, hc, hm, hs, ht⟩⟩ := h
  · exact .inl ⟨h2, h3, List.eq_nil_of_length_eq_zero (by rw [h1, h3])⟩
  · refine .inr ⟨g, cap, hv, hb, hc, ⟨cur, hg⟩, fun i x hx => ?_⟩
    rw [cell_of hg]
    rw [← ht, List.getElem?_take] at hx
    split at hx
    · simpa using hx
    · cases hx

theorem owns_gr {B : Nat} {S : List TypeId} {w w' : World} {base : Nat} {e : TypeId} {v : Value} {n : Nat} {xs : List Value} (h : w.ownsRow base e 1 v n xs) (hg : Gr B S w w') (he : e ∉ S) : w'.ownsRow base e 1 v n xs := by
  refine ⟨h.1, ?_⟩
  rcases h.2 with hn | ⟨g, cap, cur, hv, hb, hgg, rest⟩
  · exact .inl hn
  · exact .inr ⟨g, cap, cur, hv, hb, hg.keep hgg he, rest⟩

/-- The row that an append may write is of the type that is told. -/
theorem Gr.of_append {B : Nat} {S : List TypeId} {w w' : World} {e : TypeId} {v : Value} {n : Nat} {xs : List Value} (h : w.ownsRow B e 1 v n xs) (hg : w.grownBy w' v.ownBlock) (he : e ∈ S) : Gr B S w w' := by
  rcases h.2 with ⟨hn, _⟩ | ⟨g, cap, cur, hv, hb, hgg, _⟩
  · subst hn
    exact .of_none hg
  · subst hv
    exact .of_some hg hgg he hb

theorem owns_sl {α : Type} {R : World → Value → α → Prop} {w : World} {base : Nat} {e : TypeId} {v : Value} {n : Nat} {vs : List Value} {xs : List α} (h : w.ownsRow base e 1 v n vs) (hl : vs.length = xs.length) (hR : ∀ (i : Nat) (u : Value) (x : α), vs[i]? = some u → xs[i]? = some x → R w u x) : Sl R w v xs := by
  have hn : vs.length = n := by have := h.1; simpa using this
  rcases owns_cells h with ⟨rfl, rfl, rfl⟩ | ⟨g, cap, rfl, _, _, _, hc⟩
  · exact .inr ⟨none, 0, rfl, List.eq_nil_of_length_eq_zero (by simpa using hl.symm)⟩
  · refine .inl ⟨g, 0, cap, by rw [← hl, hn], fun i x hx => ?_⟩
    have hi : i < vs.length := by rw [hl]; exact (List.getElem?_eq_some_iff.1 hx).1
    exact ⟨vs[i], by rw [Nat.zero_add]; exact hc i _ (List.getElem?_eq_getElem hi), hR i _ x (List.getElem?_eq_getElem hi) hx⟩

end Go.Proofs.Ytdliilmnfbgplaa.Rd

/- An argument's reading, opened: slices, structs, by their leaves. Plain laws over any program. -/
namespace Go.Proofs.Ytdliilmnfbgplaa.Opn
open Go Go.RowKit Go.Deep Go.WideShapes Go.Proofs.Ytdliilmnfbgplaa.Hp Go.Proofs.Ytdliilmnfbgplaa.Rd

section
variable {H : Type} {enc : TypeId × Value → H} {P : Program} {w : World} {base : Nat} {spare : Nat → Bool} {held : Bool} {fuel : Nat} {t e : TypeId} {cs : List Value} {x : DataW H × List MemPlace}

theorem trod_float {k : FloatKind} (ht : P.underlying t = some (.float k)) (h : DataW.trod enc P w base spare held fuel t cs = some x) : ∃ n, cs = [.float k n] ∧ x = (.lit (.float k n), []) ∧ (Lit.float k n).wf = true := by
  cases fuel with
  | zero => simp [DataW.trod] at h
  | succ m =>
    unfold DataW.trod at h
    rw [ht] at h
    simp only at h
    split at h <;> simp_all

/-- What a datum holds, by hand. -/
def flt : DataW H → Nat
  | .lit (.float _ b) => b
  | _ => 0
def int : DataW H → Int
  | .lit (.int _ n) => n
  | _ => 0
def boo : DataW H → Bool
  | .lit (.bool b) => b
  | _ => false
def els : DataW H → List (DataW H)
  | .slice l _ => l
  | _ => []
def spa : DataW H → List (DataW H)
  | .slice _ l => l
  | _ => []
def par : DataW H → List (DataW H)
  | .agg l => l
  | _ => []

/-- A slice whose elements take s cells each. -/
def Slc {α : Type} (s : Nat) (R : World → List Value → α → Prop) (w : World) (v : Value) (xs : List α) : Prop :=
  (∃ b off cap, v = .slice (some ⟨b, off, none⟩) xs.length cap ∧ ∀ i x, xs[i]? = some x → ∃ cs : List Value, cs.length = s ∧ (∀ j u, cs[j]? = some u → w.cell? ⟨b, off + (i * s + j), none⟩ = some u) ∧ R w cs x) ∨ (∃ ao cap, v = .slice ao 0 cap ∧ xs = [])

theorem Slc.grown {α : Type} {s : Nat} {R : World → List Value → α → Prop} {w w' : World} {v : Value} {xs : List α} (h : Slc s R w v xs) (hg : w.grownBy w' none) (hR : ∀ u x, R w u x → R w' u x) : Slc s R w' v xs := by
  rcases h with ⟨b, off, cap, rfl, h⟩ | h
  · exact .inl ⟨b, off, cap, rfl, fun i x hx => let ⟨cs, h1, h2, h3⟩ := h i x hx; ⟨cs, h1, fun j u hu => hg.cell (h2 j u hu) (by simp), hR _ _ h3⟩⟩
  · exact .inr h

theorem slc_of_trod {α : Type} {R : World → List Value → α → Prop} (f : DataW H → α) {s : Nat} (hs : 0 < s) (ht : P.underlying t = some (.slice e)) (hC : P.cellsOf e = s) {v : Value} {d : DataW H} {p : List MemPlace}
    (hv : ∃ a len cap, v = .slice a len cap) (h : DataW.Trod enc P w base spare held t v d p) (hR : ∀ n cs d p, DataW.trod enc P w base spare held n e cs = some (d, p) → cs.length = s → R w cs (f d)) :
    Slc s R w v ((els d).map f) ∧ (∃ a len cap, v = .slice a len cap ∧ len = (els d).length ∧ len ≤ cap ∧ (spare = (fun _ => true) → cap = (els d).length + (spa d).length)) := by
  obtain ⟨a0, len0, cap0, rfl⟩ := hv
  obtain ⟨fuel, hf⟩ := h
  rcases open_slice ht hf with ⟨hc, hx⟩ | ⟨a, len, cap, m, n, D, Pl, hc, hb, hl, hm, hmm, hx, hel⟩
  · simp only [Value.cells, List.cons.injEq, and_true, Value.slice.injEq] at hc
    obtain ⟨rfl, rfl, rfl⟩ := hc
    simp only [Prod.mk.injEq] at hx
    rw [hx.1]
    exact ⟨.inr ⟨none, 0, rfl, rfl⟩, none, 0, 0, rfl, rfl, Nat.le_refl _, fun _ => rfl⟩
  · simp only [Value.cells, List.cons.injEq, and_true, Value.slice.injEq] at hc
    obtain ⟨rfl, rfl, rfl⟩ := hc
    simp only [Prod.mk.injEq] at hx
    obtain ⟨hd, _⟩ := hx
    have hle : len0 ≤ m := by rw [hmm]; split <;> omega
    have he : els d = (List.range len0).map D := by rw [hd]; rfl
    have hlen : (els d).length = len0 := by rw [he]; simp
    refine ⟨?_, some a, len0, cap0, rfl, hlen.symm, hl, fun hsp => ?_⟩
    · by_cases h0 : len0 = 0
      · subst h0
        exact .inr ⟨some a, cap0, rfl, by rw [he]; rfl⟩
      · obtain ⟨cs0, hc0, _⟩ := hel 0 (by omega)
        rw [hC] at hc0
        obtain ⟨_, hl0, hat0⟩ := World.cells?_some hc0
        have hsp : a.spot = none := by
          have h1 := hat0 0 hs
          rw [List.getElem?_eq_getElem (by omega)] at h1
          have h2 := World.cell?_spot h1
          unfold Addr.add at h2
          cases hsa : a.spot <;> simp_all
        refine .inl ⟨a.block, a.off, cap0, ?_, fun i x hx => ?_⟩
        · rw [List.length_map, hlen]
          congr 2
          cases a
          simp_all
        · rw [he, List.map_map, List.getElem?_map] at hx
          have hi : i < len0 := by
            rcases Nat.lt_or_ge i len0 with h | h
            · exact h
            · rw [List.getElem?_eq_none (by simpa using h)] at hx; simp at hx
          rw [List.getElem?_range hi] at hx
          simp only [Option.map_some, Function.comp, Option.some.injEq] at hx
          obtain ⟨cs', hc', ht'⟩ := hel i (by omega)
          rw [hC] at hc'
          obtain ⟨_, hl', hat⟩ := World.cells?_some hc'
          refine ⟨cs', hl', fun j u hu => ?_, hx ▸ hR _ _ _ _ ht' hl'⟩
          have hj : j < s := by have := (List.getElem?_eq_some_iff.1 hu).1; omega
          have h1 := hat j hj
          rw [hu] at h1
          rw [← h1]
          obtain ⟨ab, aoff, asp⟩ := a
          simp only at hsp
          subst hsp
          rw [Addr.add_lit, Addr.add_lit, Nat.add_assoc]
    · rw [hd]
      simp only [els, spa, List.length_map, List.length_range]
      rw [hsp] at hmm
      simp at hmm
      omega

theorem sl_of_slc {α : Type} {R : World → Value → α → Prop} {v : Value} {xs : List α} (h : Slc 1 (fun w cs x => ∃ u, cs = [u] ∧ R w u x) w v xs) : Sl R w v xs := by
  rcases h with ⟨b, off, cap, rfl, h⟩ | h
  · refine .inl ⟨b, off, cap, rfl, fun i x hx => ?_⟩
    obtain ⟨cs, _, h2, u, rfl, h3⟩ := h i x hx
    exact ⟨u, by simpa using h2 0 u rfl, h3⟩
  · exact .inr h

/-- A slice of one-cell elements. -/
theorem sl_of_trod {α : Type} {R : World → Value → α → Prop} (f : DataW H → α) (ht : P.underlying t = some (.slice e)) (hC : P.cellsOf e = 1) {v : Value} {d : DataW H} {p : List MemPlace}
    (hv : ∃ a len cap, v = .slice a len cap) (h : DataW.Trod enc P w base spare held t v d p) (hR : ∀ n u d p, DataW.trod enc P w base spare held n e [u] = some (d, p) → R w u (f d)) : Sl R w v ((els d).map f) :=
  sl_of_slc (slc_of_trod f (by omega) ht hC hv h (fun n cs d p h1 h2 => by
    match cs, h2 with
    | [u], _ => exact ⟨u, rfl, hR n u d p h1⟩)).1

theorem fls_of_trod (ht : P.underlying t = some (.slice e)) (hC : P.cellsOf e = 1) (he : P.underlying e = some (.float .f64)) {v : Value} {d : DataW H} {p : List MemPlace}
    (hv : ∃ a len cap, v = .slice a len cap) (h : DataW.Trod enc P w base spare held t v d p) : Fls w v ((els d).map flt) :=
  sl_of_trod flt ht hC hv h fun n u d p h => by
    obtain ⟨b, hu, hx, _⟩ := trod_float he h
    simp only [List.cons.injEq, and_true, Prod.mk.injEq] at hu hx
    rw [hu, hx.1]
    rfl

theorem slice_of_trod {v : Value} {d : DataW H} {p : List MemPlace} {n : Nat} (ht : P.underlying t = some (.slice e)) (h : DataW.trod enc P w base spare held n t [v] = some (d, p)) : ∃ a len cap, v = .slice a len cap := by
  rcases open_slice ht h with ⟨hc, _⟩ | ⟨a, len, cap, _, _, _, _, hc, _⟩
  · simp at hc; exact ⟨_, _, _, hc⟩
  · simp at hc; exact ⟨_, _, _, hc⟩

theorem trod_cell {v : Value} {d : DataW H} {p : List MemPlace} {n : Nat} (hv : v.cells.toList = [v]) (h : DataW.trod enc P w base spare held n t [v] = some (d, p)) : DataW.Trod enc P w base spare held t v d p := ⟨n, by rw [hv]; exact h⟩

theorem lls_of_trod {e' : TypeId} (ht : P.underlying t = some (.slice e)) (hC : P.cellsOf e = 1) (he : P.underlying e = some (.slice e')) (hC' : P.cellsOf e' = 1) (he' : P.underlying e' = some (.float .f64)) {v : Value} {d : DataW H} {p : List MemPlace}
    (hv : ∃ a len cap, v = .slice a len cap) (h : DataW.Trod enc P w base spare held t v d p) : Lls w v ((els d).map fun d => (els d).map flt) :=
  sl_of_trod (fun d => (els d).map flt) ht hC hv h fun n u d p h => by
    obtain ⟨a, len, cap, rfl⟩ := slice_of_trod he h
    exact fls_of_trod he hC' he' ⟨a, len, cap, rfl⟩ (trod_cell rfl h)

theorem ils_of_trod (ht : P.underlying t = some (.slice e)) (hC : P.cellsOf e = 1) (he : P.underlying e = some (.int .i64)) {v : Value} {d : DataW H} {p : List MemPlace}
    (hv : ∃ a len cap, v = .slice a len cap) (h : DataW.Trod enc P w base spare held t v d p) : Ils w v ((els d).map int) :=
  sl_of_trod int ht hC hv h fun n u d p h => by
    obtain ⟨b, hu, hx, _⟩ := DataW.trod_int he h
    simp only [List.cons.injEq, and_true, Prod.mk.injEq] at hu hx
    rw [hu, hx.1]
    rfl

/-! ### a struct, by its leaves -/

/-- The cells that hold no struct: where each lies, of what type. -/
def leaves (P : Program) : Nat → TypeId → Nat → List (Nat × TypeId)
  | 0, t, o => [(o, t)]
  | d + 1, t, o =>
    match P.underlying t with
    | some (.struct fs) => fs.toList.flatMap fun f => leaves P d f.type (o + f.offset)
    | _ => [(o, t)]

/-- Each field lies within its struct. -/
def within (P : Program) : Nat → TypeId → Bool
  | 0, _ => true
  | d + 1, t =>
    match P.underlying t with
    | some (.struct fs) => fs.toList.all fun f => decide (f.offset + P.cellsOf f.type ≤ P.cellsOf t) && within P d f.type
    | _ => true

theorem leaves_of_trod (big : List Value) : ∀ (d : Nat) (t : TypeId) (o : Nat) (fuel : Nat) (x : DataW H × List MemPlace), within P d t = true →
    DataW.trod enc P w base spare held fuel t ((big.drop o).take (P.cellsOf t)) = some x →
    ∀ q ∈ leaves P d t o, ∃ n y, DataW.trod enc P w base spare held n q.2 ((big.drop q.1).take (P.cellsOf q.2)) = some y := by
  intro d
  induction d with
  | zero =>
    intro t o fuel x _ h q hq
    simp only [leaves, List.mem_singleton] at hq
    subst hq
    exact ⟨fuel, x, h⟩
  | succ d ih =>
    intro t o fuel x hw h q hq
    unfold leaves at hq
    unfold within at hw
    split at hq
    · rename_i fs hfs
      rw [hfs] at hw
      simp only [List.all_eq_true, Bool.and_eq_true, decide_eq_true_eq] at hw
      obtain ⟨f, hf, hq⟩ := List.mem_flatMap.1 hq
      obtain ⟨h1, h2⟩ := hw f hf
      obtain ⟨xs, n, _, _, _, hlen, hg⟩ := DataW.trod_struct hfs h
      obtain ⟨i, hi, hfi⟩ := List.getElem_of_mem hf
      have hi' : fs[i]? = some f := by
        rw [← Array.getElem?_toList, List.getElem?_eq_getElem hi, hfi]
      have h3 := hg i f hi'
      have hix : i < xs.length := by simpa [hlen] using hi
      rw [List.getElem?_eq_getElem hix] at h3
      have e1 : (((big.drop o).take (P.cellsOf t)).drop f.offset).take (P.cellsOf f.type) = (big.drop (o + f.offset)).take (P.cellsOf f.type) := by
        rw [List.drop_take, List.take_take, List.drop_drop, Nat.min_eq_left (by omega)]
      rw [e1] at h3
      exact ih f.type (o + f.offset) n _ h2 h3 q hq
    · simp only [List.mem_singleton] at hq
      subst hq
      exact ⟨fuel, x, h⟩

end
end Go.Proofs.Ytdliilmnfbgplaa.Opn

/- A region that draws its order, in which operations that only read stand beside calls and makes that turn the world, these one behind the other: one walk in the text's order serves every order. Plain laws over any program. -/
namespace Go.Proofs.Ytdliilmnfbgplaa.Mixed
open Go

section
variable {P : Program} {ops : Array Oper} {md : Region.Mode} {C : World → Prop} {B : Nat → Bool} {Q' : Exit → Act → World → Prop}

/-- An operation that turns the world: what it comes to. -/
def bigUpon (P : Program) (R : Value → World → Prop) : Result Next → Prop
  | .ok (.value u) w' => R u w'
  | .ok .skip w' => R undef w'
  | .ok (.enter f args) w' => Calls P f args w' (fun e w'' => ∃ u, e = .returned u ∧ R u w'')
  | _ => False

def bigAt (P : Program) (o : Oper) (a : Act) (w : World) (R : Value → World → Prop) : Prop := bigUpon P R ((execOp a.eval o).run P w)

theorem bigAt_mono {o : Oper} {a : Act} {w : World} {R R' : Value → World → Prop} (h : ∀ u w', R u w' → R' u w') (hh : bigAt P o a w R) : bigAt P o a w R' := by
  unfold bigAt at *
  generalize (execOp a.eval o).run P w = r at *
  cases r with
  | ok n w' =>
    cases n <;> simp only [bigUpon] at hh ⊢
    case value u => exact h _ _ hh
    case skip => exact h _ _ hh
    case enter f args => exact hh.mono fun e w'' ⟨u, he, hr⟩ => ⟨u, he, h _ _ hr⟩
  | halt x w' => simp only [bigUpon] at hh

/-- It comes to something. -/
theorem bigAt_one {o : Oper} {a : Act} {w : World} {R : Value → World → Prop} (hh : bigAt P o a w R) : ∃ u w', R u w' := by
  unfold bigAt at hh
  generalize (execOp a.eval o).run P w = r at *
  cases r with
  | ok n w' =>
    cases n <;> simp only [bigUpon] at hh
    case value u => exact ⟨_, _, hh⟩
    case skip => exact ⟨_, _, hh⟩
    case enter f args =>
      obtain ⟨e, w'', _, ⟨u, _, hr⟩, _⟩ := hh []
      exact ⟨u, w'', hr⟩
  | halt x w' => simp only [bigUpon] at hh

/-- An operation that only reads gives v, in the very world. -/
def same (P : Program) (o : Oper) (a : Act) (w : World) (v : Value) : Prop :=
  (execOp a.eval o).run P w = .ok (.value v) w ∨ ((execOp a.eval o).run P w = .ok .skip w ∧ v = undef)

theorem same_one {o : Oper} {a : Act} {w : World} {v u : Value} (h : same P o a w v) (k : same P o a w u) : v = u := by
  rcases h with h | ⟨h, rfl⟩ <;> rcases k with k | ⟨k, rfl⟩ <;> rw [h] at k <;> simp at k
  · exact k

/-- .. in every world of the class. -/
def smallAt (P : Program) (o : Oper) (a : Act) (C : World → Prop) (v : Value) : Prop := ∀ w, C w → same P o a w v

/-- The walk in the text's order. -/
def wpM (P : Program) (ops : Array Oper) (C : World → Prop) (B : Nat → Bool) (Q : Act → World → Prop) : Nat → List Oper → Act → World → Prop
  | _, [], a, w => Q a w
  | k, o :: rest, a, w =>
    if Region.wanted o (yielded ops a.tmps) then
      (if B k then bigAt P o a w (fun u w' => C w' ∧ wpM P ops C B Q (k + 1) rest (a.put o.dst u) w') else ∃ v, smallAt P o a C v ∧ wpM P ops C B Q (k + 1) rest (a.put o.dst v) w)
    else wpM P ops C B Q (k + 1) rest (a.put o.dst undef) w

theorem wpM_nil {Q : Act → World → Prop} {k : Nat} {a : Act} {w : World} (h : Q a w) : wpM P ops C B Q k [] a w := h

theorem wpM_small {Q : Act → World → Prop} {k : Nat} {o : Oper} {rest : List Oper} {a : Act} {w : World} (hw : Region.wanted o (yielded ops a.tmps) = true) (hB : B k = false) (v : Value) (hv : smallAt P o a C v)
    (h : wpM P ops C B Q (k + 1) rest (a.put o.dst v) w) : wpM P ops C B Q k (o :: rest) a w := by
  unfold wpM
  rw [if_pos hw, hB]
  exact ⟨v, hv, h⟩

theorem wpM_big {Q : Act → World → Prop} {k : Nat} {o : Oper} {rest : List Oper} {a : Act} {w : World} (hw : Region.wanted o (yielded ops a.tmps) = true) (hB : B k = true)
    (h : bigAt P o a w (fun u w' => C w' ∧ wpM P ops C B Q (k + 1) rest (a.put o.dst u) w')) : wpM P ops C B Q k (o :: rest) a w := by
  unfold wpM
  rw [if_pos hw, hB]
  exact h

theorem wpM_skip {Q : Act → World → Prop} {k : Nat} {o : Oper} {rest : List Oper} {a : Act} {w : World} (hw : Region.wanted o (yielded ops a.tmps) = false)
    (h : wpM P ops C B Q (k + 1) rest (a.put o.dst undef) w) : wpM P ops C B Q k (o :: rest) a w := by
  unfold wpM
  rw [if_neg (by rw [hw]; exact Bool.false_ne_true)]
  exact h

def mOp (P : Program) (ops : Array Oper) (C : World → Prop) (B : Nat → Bool) (i : Nat) (K : Act → World → Prop) (a : Act) (w : World) : Prop :=
  match ops[i]? with
  | none => K a w
  | some o =>
    if Region.wanted o (yielded ops a.tmps) then
      (if B i then bigAt P o a w (fun u w' => C w' ∧ K (a.put o.dst u) w') else ∃ v, smallAt P o a C v ∧ K (a.put o.dst v) w)
    else K (a.put o.dst undef) w

theorem mOp_none {i : Nat} {K : Act → World → Prop} {a : Act} {w : World} (h : ops[i]? = none) : mOp P ops C B i K a w ↔ K a w := by unfold mOp; simp [h]
theorem mOp_big {i : Nat} {o : Oper} {K : Act → World → Prop} {a : Act} {w : World} (h : ops[i]? = some o) (hw : Region.wanted o (yielded ops a.tmps) = true) (hB : B i = true) :
    mOp P ops C B i K a w ↔ bigAt P o a w (fun u w' => C w' ∧ K (a.put o.dst u) w') := by unfold mOp; simp [h, hw, hB]
theorem mOp_small {i : Nat} {o : Oper} {K : Act → World → Prop} {a : Act} {w : World} (h : ops[i]? = some o) (hw : Region.wanted o (yielded ops a.tmps) = true) (hB : B i = false) :
    mOp P ops C B i K a w ↔ ∃ v, smallAt P o a C v ∧ K (a.put o.dst v) w := by unfold mOp; simp [h, hw, hB]
theorem mOp_skip {i : Nat} {o : Oper} {K : Act → World → Prop} {a : Act} {w : World} (h : ops[i]? = some o) (hw : Region.wanted o (yielded ops a.tmps) = false) : mOp P ops C B i K a w ↔ K (a.put o.dst undef) w := by
  unfold mOp; simp [h, hw]

/-- Whatever order is picked from here on. -/
def wpAnyM (P : Program) (md : Region.Mode) (ops : Array Oper) (C : World → Prop) (B : Nat → Bool) (Q : Act → World → Prop) : Nat → Array Bool → Act → World → Prop
  | 0, listed, a, w => Region.ready md ops listed = [] ∧ Q a w
  | fuel + 1, listed, a, w =>
    (Region.ready md ops listed = [] → Q a w) ∧
    ∀ i ∈ Region.ready md ops listed, mOp P ops C B i (wpAnyM P md ops C B Q fuel (listed.setIfInBounds i true)) a w

theorem wp_of_big {o : Oper} {a : Act} {w : World} {K K' : Act → World → Prop} (h : ∀ a w, C w → K a w → K' a w) (hh : bigAt P o a w (fun u w' => C w' ∧ K (a.put o.dst u) w')) : o.wp P a w K' Q' := by
  unfold bigAt at hh
  unfold Oper.wp
  generalize (execOp a.eval o).run P w = r at *
  cases r with
  | ok n w' =>
    cases n <;> simp only [bigUpon] at hh <;> simp only [Oper.upon]
    case value u => exact h _ _ hh.1 hh.2
    case skip => exact h _ _ hh.1 hh.2
    case enter f args => exact hh.mono fun e w'' ⟨u, he, hc, hk⟩ => by subst he; exact h _ _ hc hk
  | halt x w' => simp only [bigUpon] at hh

theorem wp_of_same {o : Oper} {a : Act} {w : World} {v : Value} {K' : Act → World → Prop} (h : same P o a w v) (hk : K' (a.put o.dst v) w) : o.wp P a w K' Q' := by
  unfold Oper.wp
  rcases h with h | ⟨h, rfl⟩ <;> rw [h] <;> exact hk

theorem wpOp_of_mOp {i : Nat} {a : Act} {w : World} {K K' : Act → World → Prop} (hC : C w) (h : ∀ a w, C w → K a w → K' a w) (hh : mOp P ops C B i K a w) : wpOp P ops Q' i K' a w := by
  unfold wpOp
  split
  · rename_i ho; exact h _ _ hC ((mOp_none ho).1 hh)
  · rename_i o ho
    split
    · rename_i hw
      cases hB : B i with
      | true => exact .inl (wp_of_big h ((mOp_big ho hw hB).1 hh))
      | false =>
        obtain ⟨v, h1, h2⟩ := (mOp_small ho hw hB).1 hh
        exact .inl (wp_of_same (h1 w hC) (h _ _ hC h2))
    · rename_i hw; exact h _ _ hC ((mOp_skip ho (by simpa using hw)).1 hh)

theorem wpAny_of_mixed {Q : Act → World → Prop} (hQ : ∀ a w, C w → Q a w → Q' .normal a w) : ∀ (fuel : Nat) (listed : Array Bool) (a : Act) (w : World), C w →
    wpAnyM P md ops C B Q fuel listed a w → wpAny P md ops Q' fuel listed a w
  | 0, _, _, _, hw, h => ⟨h.1, hQ _ _ hw h.2⟩
  | fuel + 1, _, _, _, hw, h => ⟨fun h0 => hQ _ _ hw (h.1 h0), fun i hi => wpOp_of_mOp hw (fun a' w' hw' => wpAny_of_mixed hQ fuel _ a' w' hw') (h.2 i hi)⟩

/-- What waits for operation i, by whatever way. -/
def Waits (md : Region.Mode) (ops : Array Oper) (i : Nat) (D : Nat → Bool) (listed : Array Bool) : Prop :=
  D i = false ∧ ∀ j, D j = true → listed.getD j true = false ∧ ∃ oj, ops[j]? = some oj ∧ ∃ e ∈ oj.after, Region.binds md e = true ∧ (e.on = i ∨ D e.on = true)

theorem false_of_true {listed : Array Bool} {j : Nat} (h : listed.getD j true = false) : listed.getD j false = false := by
  rcases Nat.lt_or_ge j listed.size with h' | h'
  · simp [h'] at h ⊢; exact h
  · simp [Array.getElem?_eq_none h'] at h

theorem not_ready {i j : Nat} {D : Nat → Bool} {listed : Array Bool} (hD : Waits md ops i D listed) (hi : listed.getD i true = false) (hj : D j = true) : j ∉ Region.ready md ops listed := by
  intro hr
  obtain ⟨_, oj, hoj, e, he, hb, hon⟩ := hD.2 j hj
  obtain ⟨_, oj', hoj', hall⟩ := mem_ready.1 hr
  rw [hoj] at hoj'
  cases hoj'
  have h1 := hall e he hb
  rcases hon with hon | hon
  · rw [hon, false_of_true hi] at h1; cases h1
  · rw [false_of_true (hD.2 _ hon).1] at h1; cases h1

theorem Waits.list {i j : Nat} {D : Nat → Bool} {listed : Array Bool} (hD : Waits md ops i D listed) (hj : D j = false) : Waits md ops i D (listed.setIfInBounds j true) :=
  ⟨hD.1, fun k hk => ⟨by rw [getD_set_ne true (by intro e; subst e; rw [hj] at hk; cases hk)]; exact (hD.2 k hk).1, (hD.2 k hk).2⟩⟩

/-- An operation that may come up now may be taken first: whatever has not come up waits for it, or is apart from it and the two are not both great. -/
theorem wpAnyM_first {Q : Act → World → Prop} {i : Nat} {oi : Oper} {D : Nat → Bool} (hi : ops[i]? = some oi) (hsel : ∀ (j : Nat) (o : Oper) cs b, ops[j]? = some o → o.op ≠ .select cs b) :
    ∀ (fuel : Nat) (listed : Array Bool) (a : Act) (w : World), C w → Waits md ops i D listed →
      (∀ j oj, ops[j]? = some oj → j ≠ i → listed.getD j true = false → D j = false → oi.apart ops oj = true ∧ (B i && B j) = false) →
      i ∈ Region.ready md ops listed →
      mOp P ops C B i (wpAnyM P md ops C B Q fuel (listed.setIfInBounds i true)) a w → wpAnyM P md ops C B Q (fuel + 1) listed a w := by
  intro fuel
  induction fuel with
  | zero =>
    intro listed a w hC hD hfree hr H
    refine ⟨fun h => (by rw [h] at hr; cases hr), fun j hj => ?_⟩
    by_cases hji : j = i
    · subst hji; exact H
    · have hrj := ready_mono hj hji
      have hno : Region.ready md ops (listed.setIfInBounds i true) = [] := by
        cases hwi : Region.wanted oi (yielded ops a.tmps) with
        | false => exact ((mOp_skip hi hwi).1 H).1
        | true =>
          cases hB : B i with
          | true =>
            obtain ⟨u, w', _, h⟩ := bigAt_one ((mOp_big hi hwi hB).1 H)
            exact h.1
          | false =>
            obtain ⟨v, _, h⟩ := (mOp_small hi hwi hB).1 H
            exact h.1
      rw [hno] at hrj
      cases hrj
  | succ fuel ih =>
    intro listed a w hC hD hfree hr H
    refine ⟨fun h => (by rw [h] at hr; cases hr), fun j hj => ?_⟩
    by_cases hji : j = i
    · subst hji; exact H
    · obtain ⟨hjun, oj, hoj, hall⟩ := mem_ready.1 hj
      have hi0 := (mem_ready.1 hr).1
      have hDj : D j = false := by
        cases h : D j with
        | false => rfl
        | true => exact (not_ready hD hi0 h hj).elim
      obtain ⟨hap, hbb⟩ := hfree j oj hoj hji hjun hDj
      obtain ⟨h1, h2, h3⟩ := Oper.apart_spec hap
      have hsi := fun cs b => hsel i oi cs b hi
      have hsj := fun cs b => hsel j oj cs b hoj
      have hfree' : ∀ k ok, ops[k]? = some ok → k ≠ i → (listed.setIfInBounds j true).getD k true = false → D k = false → oi.apart ops ok = true ∧ (B i && B k) = false := fun k ok hk hki hun hdk => by
        refine hfree k ok hk hki ?_ hdk
        by_cases hjk : j = k
        · subst hjk; exact hjun
        · rw [getD_set_ne true hjk] at hun; exact hun
      have hD' := hD.list (j := j) hDj
      have hr' := ready_mono hr (Ne.symm hji)
      have hwi' : ∀ u, Region.wanted oi (yielded ops (a.put oj.dst u).tmps) = Region.wanted oi (yielded ops a.tmps) := fun u => wanted_put oi a oj.dst u h3
      have hwj' : ∀ u, Region.wanted oj (yielded ops (a.put oi.dst u).tmps) = Region.wanted oj (yielded ops a.tmps) := fun u => wanted_put oj a oi.dst u h1
      have hei : ∀ u, execOp (a.put oj.dst u).eval oi = execOp a.eval oi := fun u => execOp_put oi hsi a oj.dst u h3
      have hej : ∀ u, execOp (a.put oi.dst u).eval oj = execOp a.eval oj := fun u => execOp_put oj hsj a oi.dst u h1
      have sm_i : ∀ u v, smallAt P oi (a.put oj.dst u) C v ↔ smallAt P oi a C v := fun u v => by unfold smallAt same; rw [hei]
      have sm_j : ∀ u v, smallAt P oj (a.put oi.dst u) C v ↔ smallAt P oj a C v := fun u v => by unfold smallAt same; rw [hej]
      have bg_i : ∀ u w R, bigAt P oi (a.put oj.dst u) w R ↔ bigAt P oi a w R := fun u w R => by unfold bigAt; rw [hei]
      have bg_j : ∀ u w R, bigAt P oj (a.put oi.dst u) w R ↔ bigAt P oj a w R := fun u w R => by unfold bigAt; rw [hej]
      have swap : ∀ (v u : Value) (w : World), wpAnyM P md ops C B Q fuel ((listed.setIfInBounds i true).setIfInBounds j true) ((a.put oi.dst v).put oj.dst u) w →
          wpAnyM P md ops C B Q fuel ((listed.setIfInBounds j true).setIfInBounds i true) ((a.put oj.dst u).put oi.dst v) w := fun v u w h => by
        rw [Array.setIfInBounds_comm _ _ hji, ← Act.put_comm a v u h2]
        exact h
      cases hwi : Region.wanted oi (yielded ops a.tmps) with
      | false =>
        have step := ((mOp_skip hi hwi).1 H).2 j (ready_mono hj hji)
        cases hwj : Region.wanted oj (yielded ops a.tmps) with
        | false =>
          have s2 := (mOp_skip hoj (by rw [hwj']; exact hwj)).1 step
          exact (mOp_skip hoj hwj).2 (ih _ _ _ hC hD' hfree' hr' ((mOp_skip hi (by rw [hwi']; exact hwi)).2 (swap _ _ _ s2)))
        | true =>
          cases hBj : B j with
          | true =>
            have s2 := (bg_j _ _ _).1 ((mOp_big hoj (by rw [hwj']; exact hwj) hBj).1 step)
            exact (mOp_big hoj hwj hBj).2 (bigAt_mono (fun u w' ⟨hc, hk⟩ => ⟨hc, ih _ _ _ hc hD' hfree' hr' ((mOp_skip hi (by rw [hwi']; exact hwi)).2 (swap _ _ _ hk))⟩) s2)
          | false =>
            obtain ⟨v, hv, hk⟩ := (mOp_small hoj (by rw [hwj']; exact hwj) hBj).1 step
            exact (mOp_small hoj hwj hBj).2 ⟨v, (sm_j _ _).1 hv, ih _ _ _ hC hD' hfree' hr' ((mOp_skip hi (by rw [hwi']; exact hwi)).2 (swap _ _ _ hk))⟩
      | true =>
        cases hBi : B i with
        | false =>
          obtain ⟨vi, hvi, hK⟩ := (mOp_small hi hwi hBi).1 H
          have step := hK.2 j (ready_mono hj hji)
          cases hwj : Region.wanted oj (yielded ops a.tmps) with
          | false =>
            have s2 := (mOp_skip hoj (by rw [hwj']; exact hwj)).1 step
            exact (mOp_skip hoj hwj).2 (ih _ _ _ hC hD' hfree' hr' ((mOp_small hi (by rw [hwi']; exact hwi) hBi).2 ⟨vi, (sm_i _ _).2 hvi, swap _ _ _ s2⟩))
          | true =>
            cases hBj : B j with
            | true =>
              have s2 := (bg_j _ _ _).1 ((mOp_big hoj (by rw [hwj']; exact hwj) hBj).1 step)
              exact (mOp_big hoj hwj hBj).2 (bigAt_mono (fun u w' ⟨hc, hk⟩ => ⟨hc, ih _ _ _ hc hD' hfree' hr' ((mOp_small hi (by rw [hwi']; exact hwi) hBi).2 ⟨vi, (sm_i _ _).2 hvi, swap _ _ _ hk⟩)⟩) s2)
            | false =>
              obtain ⟨v, hv, hk⟩ := (mOp_small hoj (by rw [hwj']; exact hwj) hBj).1 step
              exact (mOp_small hoj hwj hBj).2 ⟨v, (sm_j _ _).1 hv, ih _ _ _ hC hD' hfree' hr' ((mOp_small hi (by rw [hwi']; exact hwi) hBi).2 ⟨vi, (sm_i _ _).2 hvi, swap _ _ _ hk⟩)⟩
        | true =>
          have hBj : B j = false := by rw [hBi] at hbb; simpa using hbb
          have big := (mOp_big hi hwi hBi).1 H
          cases hwj : Region.wanted oj (yielded ops a.tmps) with
          | false =>
            refine (mOp_skip hoj hwj).2 (ih _ _ _ hC hD' hfree' hr' ((mOp_big hi (by rw [hwi']; exact hwi) hBi).2 ((bg_i _ _ _).2 (bigAt_mono ?_ big))))
            rintro u w' ⟨hc, hk⟩
            exact ⟨hc, swap _ _ _ ((mOp_skip hoj (by rw [hwj']; exact hwj)).1 (hk.2 j (ready_mono hj hji)))⟩
          | true =>
            obtain ⟨u0, w0', hc0, hk0⟩ := bigAt_one big
            obtain ⟨v, hv, _⟩ := (mOp_small hoj (by rw [hwj']; exact hwj) hBj).1 (hk0.2 j (ready_mono hj hji))
            have hv' := (sm_j _ _).1 hv
            refine (mOp_small hoj hwj hBj).2 ⟨v, hv', ih _ _ _ hC hD' hfree' hr' ((mOp_big hi (by rw [hwi']; exact hwi) hBi).2 ((bg_i _ _ _).2 (bigAt_mono ?_ big)))⟩
            rintro u w' ⟨hc, hk⟩
            obtain ⟨v2, hv2, hk2⟩ := (mOp_small hoj (by rw [hwj']; exact hwj) hBj).1 (hk.2 j (ready_mono hj hji))
            have e : v2 = v := same_one ((sm_j _ _).1 hv2 w hC) (hv' w hC)
            subst e
            exact ⟨hc, swap _ _ _ hk2⟩

/-- What waits for operation k, gone through from the next one on. -/
def deps (md : Region.Mode) (ops : Array Oper) (k : Nat) : List Nat :=
  (List.range ops.size).foldl (fun acc j => if k < j && ((ops[j]?).map fun o => o.after.any fun e => Region.binds md e && (e.on == k || acc.contains e.on)).getD false then acc ++ [j] else acc) []

/-- May operation k be taken first, when just those ahead of it have come up? -/
def firstB (md : Region.Mode) (ops : Array Oper) (B : Nat → Bool) (k : Nat) : Bool :=
  let D := deps md ops k
  let listed := (Array.range ops.size).map (fun j => decide (j < k))
  (Region.ready md ops listed).contains k && !D.contains k &&
  (D.all fun j => decide (k < j) && ((ops[j]?).map fun o => o.after.any fun e => Region.binds md e && (e.on == k || D.contains e.on)).getD false) &&
  (List.range ops.size).all fun j => decide (j ≤ k) || D.contains j || (((ops[j]?).map fun oj => ((ops[k]?).map fun ok => ok.apart ops oj).getD false).getD false && !(B k && B j))

def lexM (md : Region.Mode) (ops : Array Oper) (B : Nat → Bool) : Bool :=
  Region.noSelect ops && ((List.range ops.size).all fun k => firstB md ops B k) && (Region.ready md ops (Array.replicate ops.size true)).isEmpty

def listedTo (n k : Nat) : Array Bool := (Array.range n).map (fun j => decide (j < k))

theorem listedTo_get (n k j : Nat) (d : Bool) : (listedTo n k).getD j d = if j < n then decide (j < k) else d := by
  unfold listedTo
  by_cases h : j < n <;> simp [h]

theorem listedTo_succ (n k : Nat) : (listedTo n k).setIfInBounds k true = listedTo n (k + 1) := by
  apply Array.ext
  · simp [listedTo]
  · intro i h1 h2
    simp only [Array.size_setIfInBounds] at h1
    rw [Array.getElem_setIfInBounds (by simpa using h1)]
    simp only [listedTo, Array.getElem_map, Array.getElem_range]
    by_cases h : k = i
    · subst h; simp
    · rw [if_neg h, Bool.eq_iff_iff]; simp; omega

theorem wpAnyM_lex {Q : Act → World → Prop} (hs : Region.noSelect ops = true) (hf : ∀ k, k < ops.size → firstB md ops B k = true) (he : Region.ready md ops (listedTo ops.size ops.size) = []) : ∀ (l : List Oper) (k : Nat) (a : Act) (w : World), C w →
    (∀ j, l[j]? = ops[k + j]?) → k + l.length = ops.size → wpM P ops C B Q k l a w → wpAnyM P md ops C B Q l.length (listedTo ops.size k) a w
  | [], k, a, w, _, _, hk, h => ⟨by simp at hk; rw [hk]; exact he, h⟩
  | o :: l, k, a, w, hC, hl, hk, h => by
    have h0 : ops[k]? = some o := by simpa using (hl 0).symm
    have hl' : ∀ j, l[j]? = ops[k + 1 + j]? := fun j => by have := hl (j + 1); simpa [Nat.add_assoc, Nat.add_comm 1 j] using this
    have hkn : k < ops.size := (Array.getElem?_eq_some_iff.1 h0).1
    have hk' : k + 1 + l.length = ops.size := by simp at hk; omega
    have hF := hf k hkn
    unfold firstB at hF
    simp only [Bool.and_eq_true, List.all_eq_true, Bool.not_eq_true', decide_eq_true_eq, Bool.or_eq_true, List.mem_range] at hF
    obtain ⟨⟨⟨hr, hDk⟩, hDall⟩, hfree⟩ := hF
    refine wpAnyM_first (D := fun j => (deps md ops k).contains j) h0 (Region.noSelect_spec hs) l.length (listedTo ops.size k) a w hC ⟨hDk, fun j hj => ?_⟩ ?_ (by simpa [listedTo] using hr) ?_
    · obtain ⟨h1, h2⟩ := hDall j (by simpa using hj)
      cases ho : ops[j]? with
      | none => rw [ho] at h2; simp at h2
      | some oj =>
        rw [ho] at h2
        simp only [Option.map_some, Option.getD_some, Array.any_eq_true, Bool.and_eq_true, Bool.or_eq_true, beq_iff_eq] at h2
        obtain ⟨i, hi, hb, hon⟩ := h2
        have hjn : j < ops.size := (Array.getElem?_eq_some_iff.1 ho).1
        exact ⟨by rw [listedTo_get, if_pos hjn]; simp; omega, oj, rfl, oj.after[i], Array.getElem_mem hi, hb, hon⟩
    · intro j oj hoj hjk hun hDj
      have hjn : j < ops.size := (Array.getElem?_eq_some_iff.1 hoj).1
      rw [listedTo_get, if_pos hjn] at hun
      simp at hun
      rcases hfree j hjn with (h1 | h1) | h1
      · omega
      · rw [hDj] at h1; cases h1
      · rw [hoj, h0] at h1
        simp only [Option.map_some, Option.getD_some] at h1
        exact ⟨h1.1, by simpa using h1.2⟩
    · rw [listedTo_succ]
      have IH := fun a w hC h => wpAnyM_lex (Q := Q) hs hf he l (k + 1) a w hC hl' hk' h
      unfold wpM at h
      cases hw : Region.wanted o (yielded ops a.tmps) with
      | false =>
        rw [if_neg (by rw [hw]; exact Bool.false_ne_true)] at h
        exact (mOp_skip h0 hw).2 (IH _ _ hC h)
      | true =>
        rw [if_pos hw] at h
        cases hB : B k with
        | true =>
          rw [hB] at h
          exact (mOp_big h0 hw hB).2 (bigAt_mono (fun u w' ⟨hc, hk⟩ => ⟨hc, IH _ _ hc hk⟩) h)
        | false =>
          rw [hB] at h
          obtain ⟨v, hv, hk⟩ := h
          exact (mOp_small h0 hw hB).2 ⟨v, hv, IH _ _ hC hk⟩

/-- One walk in the text's order serves every order. 'B': which operations turn the world. -/
theorem wp_region_mixed {id : Nat} {Q : Exit → Act → World → Prop} {a : Act} {w : World} {l : List Oper} (C : World → Prop) (B : Nat → Bool) (hm : P.follows .mixedOrders = true) (hB : lexM .any l.toArray B = true) (hC : C w.drew)
    (h : wpM P l.toArray C B (fun a' w' => C w' → Q .normal a' w') 0 l a w.drew) : (Code.region id l.toArray true).wp P Q a w := by
  unfold lexM at hB
  simp only [Bool.and_eq_true, List.all_eq_true, List.mem_range, List.isEmpty_iff] at hB
  obtain ⟨⟨hs, hf⟩, he⟩ := hB
  have e1 : listedTo l.toArray.size l.toArray.size = Array.replicate l.toArray.size true := by
    apply Array.ext
    · simp [listedTo]
    · intro i h1 h2; simp [listedTo] at h1 ⊢; exact h1
  have e0 : Array.replicate l.toArray.size false = listedTo l.toArray.size 0 := by
    apply Array.ext
    · simp [listedTo]
    · intro i h1 h2; simp [listedTo]
  refine wp_region_any hm (wpAny_of_mixed (C := C) (B := B) (Q := fun a' w' => C w' → Q .normal a' w') (fun _ w' hw' h => h hw') _ _ _ _ hC ?_)
  rw [e0]
  exact wpAnyM_lex hs hf (by rw [e1]; exact he) l 0 a _ hC (by simp) (by simp) h

/-- The worlds in which nothing that was there has turned. -/
structure Later (W : World) where
  w : World
  h : W.grownBy w none

/-- The class of these. -/
def late (W : World) (w' : World) : Prop := ∃ n : Later W, w' = n.w

theorem late_of {W w' : World} (h : W.grownBy w' none) : late W w' := ⟨⟨w', h⟩, rfl⟩

theorem Later.nonempty (W : World) : Nonempty (Later W) := ⟨⟨W, ⟨rfl, rfl, rfl, Nat.le_refl _, fun _ _ _ => rfl⟩⟩⟩

theorem Later.cell {W : World} {p : Addr} {v : Value} (h : W.cell? p = some v) (n : Later W) : n.w.cell? p = some v := n.h.cell h (by simp)

/-- An operation that is quiet in the class, one that enters nothing. -/
theorem wpM_quiet {Q : Act → World → Prop} {k : Nat} {o : Oper} {rest : List Oper} {a : Act} {w : World} (hw : Region.wanted o (yielded ops a.tmps) = true) (hB : B k = false) (hs : Loose.still o.op = true)
    (h : ∀ K : Act → Prop, (∀ a, wpM P ops C B Q (k + 1) rest a w → K a) → o.quiet P a C K) : wpM P ops C B Q k (o :: rest) a w := by
  obtain ⟨v, h1, h2⟩ := h _ fun _ h => h
  refine wpM_small hw hB v (fun w' hC => ?_) h2
  have h3 := h1 w' hC
  have h4 := Loose.no_enter (P := P) (ρ := a.eval) hs w'
  unfold Oper.quietAt at h3
  unfold same
  generalize (execOp a.eval o).run P w' = r at *
  cases r with
  | ok n w'' =>
    cases n <;> simp only [Oper.quietUpon] at h3
    case value u => obtain ⟨rfl, rfl⟩ := h3; exact .inl rfl
    case skip => obtain ⟨rfl, rfl⟩ := h3; exact .inr ⟨rfl, rfl⟩
    case enter f args => exact (h4 _ _ _ rfl).elim
  | halt x w'' => simp only [Oper.quietUpon] at h3

theorem wpM_val {Q : Act → World → Prop} {k : Nat} {o : Oper} {rest : List Oper} {a : Act} {w : World} (hw : Region.wanted o (yielded ops a.tmps) = true) (hB : B k = false) (v : Value)
    (hv : ∀ w', C w' → (execOp a.eval o).run P w' = .ok (.value v) w') (h : wpM P ops C B Q (k + 1) rest (a.put o.dst v) w) : wpM P ops C B Q k (o :: rest) a w :=
  wpM_small hw hB v (fun w' hC => .inl (hv w' hC)) h

theorem wpM_call {Q : Act → World → Prop} {k : Nat} {o : Oper} {rest : List Oper} {a : Act} {w : World} (hw : Region.wanted o (yielded ops a.tmps) = true) (hB : B k = true) (f : FuncId) (args : Array Value)
    (hr : (execOp a.eval o).run P w = .ok (.enter f args) w) (hc : Calls P f args w (fun e w' => ∃ u, e = .returned u ∧ C w' ∧ wpM P ops C B Q (k + 1) rest (a.put o.dst u) w')) : wpM P ops C B Q k (o :: rest) a w := by
  refine wpM_big hw hB ?_
  unfold bigAt
  rw [hr]
  exact hc

theorem wpM_make {Q : Act → World → Prop} {k : Nat} {o : Oper} {rest : List Oper} {a : Act} {w : World} (hw : Region.wanted o (yielded ops a.tmps) = true) (hB : B k = true) (u : Value) (w' : World)
    (hr : (execOp a.eval o).run P w = .ok (.value u) w') (hc : C w') (h : wpM P ops C B Q (k + 1) rest (a.put o.dst u) w') : wpM P ops C B Q k (o :: rest) a w := by
  refine wpM_big hw hB ?_
  unfold bigAt
  rw [hr]
  exact ⟨hc, h⟩

/-- 'make([]T, n)' in such a region. -/
theorem wpM_make_full {Q : Act → World → Prop} {k : Nat} {o : Oper} {rest : List Oper} {a : Act} {w : World} (hw : Region.wanted o (yielded ops a.tmps) = true) (hB : B k = true) (l c : Operand) (t : TypeId) (hop : o.op = Op.makeSlice t l c)
    (e : TypeId) (i : TypeInfo) (z : Value) (size : Nat) (h1 : P.underlying t = some (.slice e)) (h2 : P.info? e = some i) (h3 : i.zero = some z) (h4 : i.size = size)
    (kl kc : IntKind) (L D : Int) (n : Nat) (hl : a.eval l = .int kl L) (hc : a.eval c = .int kc D) (hL : L = (n : Int)) (hD : D = (n : Int)) (b2 : i.bytes * n ≤ 281474976710656) (b3 : n ≤ maxLen)
    (hK : ∀ w', w'.ownsRow w.heap.size e size (.slice (some ⟨w.heap.size, 0, none⟩) n n) n (madeCells z.cells (n * size)).toList → w.grownBy w' none → C w' ∧ wpM P ops C B Q (k + 1) rest (a.put o.dst (.slice (some ⟨w.heap.size, 0, none⟩) n n)) w') :
    wpM P ops C B Q k (o :: rest) a w := by
  obtain ⟨w', hrun, r1, r2⟩ := run_make_full (P := P) w w.heap.size t e i z size h1 h2 h3 h4 kl kc n b2 b3 (Nat.le_refl _)
  subst hL
  subst hD
  obtain ⟨hc', hk⟩ := hK w' r1 r2
  exact wpM_make hw hB _ w' (by simp [execOp, hop, hl, hc, hrun, Result.andThen]) hc' hk

end
end Go.Proofs.Ytdliilmnfbgplaa.Mixed

/- append onto a slice that the call owns, the other slice open: nil, empty or not. -/
namespace Go.Proofs.Ytdliilmnfbgplaa.App
open Go Go.RowKit Go.Proofs.Ytdliilmnfbgplaa.Hp Go.Proofs.Ytdliilmnfbgplaa.Rd

theorem append_in {P : Program} {w : World} {ops : Array Oper} {rest : List Oper} {o : Oper} {a : Act} {Q : Exit → Act → World → Prop} (hgd : o.guard = none) (s x : Operand) (t : TypeId)
    (ho : o.op = .call { callee := .builtin .append, args := #[s, x], argTypes := #[t, t] })
    (base : Nat) (e : TypeId) (i : TypeInfo) (z : Value) (bytes : Nat) (ht : P.underlying t = some (.slice e)) (hi : P.info? e = some i) (hz : i.zero = some z)
    (hsize : i.size = 1) (hby : i.bytes = bytes) (hzs : z.cells.size = 1)
    (v : Value) (n : Nat) (xs : List Value) (hs : a.eval s = v) (hown : w.ownsRow base e 1 v n xs)
    (ao : Option Addr) (m c : Nat) (news : List Value) (hx : a.eval x = .slice ao m c) (hl : news.length = m)
    (hnews : ∀ j u, news[j]? = some u → ∃ b off, ao = some ⟨b, off, none⟩ ∧ w.cell? ⟨b, off + j, none⟩ = some u) (h1 : ∀ u ∈ news, u.oneCell' = true)
    (h63 : n + m ≤ maxLen) (hbytes : (n + m) * bytes ≤ 140737488355328) (hbase : base ≤ w.heap.size)
    (h : ∀ v' w', w'.ownsRow base e 1 v' (n + m) (xs ++ news) → w.grownBy w' v.ownBlock → (v'.ownBlock = v.ownBlock ∨ v'.ownBlock = some w.heap.size) → wpList P ops Q rest (a.put o.dst v') w') :
    wpList P ops Q (o :: rest) a w := by
  cases ao with
  | some ad =>
    refine wpList_append_own_at w hgd s x t ho base e i z 1 bytes ht hi hz hsize hby hzs (by decide) v n xs hs hown ad m c news hx (by omega) ?_ h1 h63 hbytes hbase fun v' w' h2 h3 _ h5 => h v' w' h2 h3 h5
    intro j u hj
    obtain ⟨b, off, he, hc⟩ := hnews j u hj
    injection he with he
    subst he
    rw [show ((⟨b, off, none⟩ : Addr).add j) = ⟨b, off + j, none⟩ from Addr.add_lit _ _ _]
    exact hc
  | none =>
    have hn : news = [] := by
      cases news with
      | nil => rfl
      | cons u l => obtain ⟨b, off, he, _⟩ := hnews 0 u rfl; cases he
    subst hn
    obtain rfl : m = 0 := by simpa using hl.symm
    refine wpList_plain hgd fun K hK => ?_
    have hrun : (Builtin.append_ #[t, t] o.type #[v, .slice none 0 c]).run P w = .ok v w := by
      rcases hown.2 with ⟨rfl, rfl⟩ | ⟨g, cap, cur, rfl, _, _, hnc, _⟩
      · simp [Builtin.append_, run_underlying ht, sizeOf, typeInfo, hi, Builtin.lenOf, Builtin.firstCells]
      · simp [Builtin.append_, run_underlying ht, sizeOf, typeInfo, hi, Builtin.lenOf, Builtin.firstCells, hnc, storeCells]
    unfold Oper.wp
    simp [execOp, ho, resolve, invoke, builtin, hs, hx, hrun, Result.andThen]
    exact hK _ _ (h v w (by simpa using hown) (grown_refl _ _) (.inl rfl))

/-- Two slices of the call's own do not lie in one row. -/
def Apart (v u : Value) : Prop := ∀ g, v.ownBlock = some g → u.ownBlock ≠ some g

theorem own_lt {w : World} {base : Nat} {e : TypeId} {v : Value} {n : Nat} {xs : List Value} (h : w.ownsRow base e 1 v n xs) {g : Nat} (hg : v.ownBlock = some g) : g < w.heap.size ∧ base ≤ g := by
  rcases h.2 with ⟨hn, _⟩ | ⟨g', cap, cur, hv, hb, hgg, _⟩
  · subst hn; cases hg
  · subst hv
    injection hg with hg
    subst hg
    exact ⟨lt_of hgg, hb⟩

/-- One grows: the other is as it was, and they lie apart still. -/
theorem other {w w' : World} {base : Nat} {e : TypeId} {v v' u : Value} {m : Nat} {us : List Value} (hu : w.ownsRow base e 1 u m us) (ha : Apart v u) (hg : w.grownBy w' v.ownBlock)
    (hat : v'.ownBlock = v.ownBlock ∨ v'.ownBlock = some w.heap.size) : w'.ownsRow base e 1 u m us ∧ Apart v' u := by
  refine ⟨⟨hu.1, ?_⟩, fun g h1 h2 => ?_⟩
  · rcases hu.2 with hn | ⟨g, cap, cur, hv', hb, hgg, rest⟩
    · exact .inl hn
    · refine .inr ⟨g, cap, cur, hv', hb, ?_, rest⟩
      rw [hg.block g (lt_of hgg) (fun e => ha g e.symm (by subst hv'; rfl))]
      exact hgg
  · rcases hat with hat | hat
    · exact ha g (hat ▸ h1) h2
    · have := own_lt hu h2
      rw [hat] at h1
      injection h1 with h1
      omega

theorem Apart.symm {v u : Value} (h : Apart v u) : Apart u v := fun g h1 h2 => h g h2 h1

end Go.Proofs.Ytdliilmnfbgplaa.App
