/- A map whose keys are states. -/
import Derived.Test.YthdohdllpaijhaaRCnt
import Derived.Test.YthdohdllpaijhaaRAlone
import Derived.Maps.RangeWalk
import Derived.Maps.Views
import Derived.DeepKeys4
namespace Go.Proofs.Ythdohdllpaijhaa.RMap
open Go Go.RowKit Go.Proofs.Ythdohdllpaijhaa.RMod Go.Proofs.Ythdohdllpaijhaa.RCnt Go.Proofs.Ythdohdllpaijhaa.Hp Go.Proofs.Ythdohdllpaijhaa.Rd
open Go.Maps (Keyed)
set_option linter.unusedVariables false
set_option linter.unusedSimpArgs false

theorem laid : laidOutB Try.prog = true := by kernel_rfl
theorem row43 : (43 : TypeId) < Try.prog.types.size := of_decide_eq_true (by kernel_rfl)
theorem wide43 : (match Try.prog.underlying 43 with | some (.array _ _) | some (.struct _) => true | _ => false) = true := by kernel_rfl
theorem law43 : Keyed Try.prog 43 := Keyed.of_law (deep_law_laid laid (m := 2) (by omega) row43 (by kernel_rfl) wide43)

def kl (k : Int) (s : Bool) : Lit := .string (keyBytes [.int .i64 k, .bool s])

theorem keyType43 : Try.prog.keyType 43 = true := by kernel_rfl
theorem under43 : ∃ f0 f1, Try.prog.underlying 43 = some (.struct #[f0, f1]) ∧ f0.type = 3 ∧ f0.offset = 0 ∧ f1.type = 4 ∧ f1.offset = 1 ∧ f0.name ≠ "_" ∧ f1.name ≠ "_" := ⟨_, _, Try.underlying43, rfl, rfl, rfl, rfl, by decide, by decide⟩
theorem under3 : Try.prog.underlying 3 = some (.int .i64) := Try.underlying3
theorem under4 : Try.prog.underlying 4 = some .bool := Try.underlying4
theorem under38 : Try.prog.underlying 38 = some (.map 43 3) := Try.underlying38
theorem cells43 : Try.prog.cellsOf 43 = 2 := by kernel_rfl
theorem cells3 : Try.prog.cellsOf 3 = 1 := by kernel_rfl
theorem cells4 : Try.prog.cellsOf 4 = 1 := by kernel_rfl
theorem size_ok : ∃ m, Try.prog.types.size = m + 2 := ⟨Try.prog.types.size - 2, by have := row43; have : 43 < Try.prog.types.size := this; omega⟩

theorem keyOf_kl {k : Int} {s : Bool} (h : (Lit.int .i64 k).wf = true) : keyOf Try.prog 43 (.agg #[.int .i64 k, .bool s]) = some (kl k s) := by
  obtain ⟨f0, f1, hu, t0, o0, t1, o1, n0, n1⟩ := under43
  obtain ⟨m, hm⟩ := size_ok
  unfold keyOf
  rw [hu]
  simp only [keyType43, Bool.true_and]
  have hf : (Value.agg #[.int .i64 k, .bool s]).formed Try.prog 43 = true := by simp [Value.formed, hu, cells43]
  rw [hf, if_pos rfl, hm]
  simp [Program.keyLits, hu, Value.cells, cells43, t0, t1, o0, o1, n0, n1, cells3, cells4, under3, under4, h, kl]

theorem keyOf_inv {v : Value} {l : Lit} (h : keyOf Try.prog 43 v = some l) : ∃ k s, v = .agg #[.int .i64 k, .bool s] ∧ (Lit.int .i64 k).wf = true ∧ l = kl k s := by
  obtain ⟨f0, f1, hu, t0, o0, t1, o1, n0, n1⟩ := under43
  obtain ⟨m, hm⟩ := size_ok
  have h0 := h
  unfold keyOf at h
  rw [hu] at h
  simp only [keyType43, Bool.true_and] at h
  split at h
  · rename_i hf
    cases v with
    | agg cs =>
      simp only [Value.formed, hu, cells43, beq_iff_eq] at hf
      obtain ⟨c0, c1, rfl⟩ : ∃ c0 c1, cs = #[c0, c1] := by
        obtain ⟨l⟩ := cs
        match l, hf with
        | [a, b], _ => exact ⟨a, b, rfl⟩
      rw [hm] at h
      simp only [Program.keyLits, hu, Value.cells, cells43, t0, t1, o0, o1, n0, n1, cells3, cells4, under3, under4] at h
      have hlen : (#[c0, c1] : Array Value).toList.length = 2 := rfl
      cases c0 with
      | int q n =>
        cases c1 with
        | bool s =>
          by_cases hq : q = .i64 ∧ (Lit.int .i64 n).wf = true
          · obtain ⟨rfl, hw⟩ := hq
            refine ⟨n, s, rfl, hw, ?_⟩
            rw [keyOf_kl hw] at h0
            exact (Option.some.inj h0).symm
          · exfalso
            simp [Program.keyLits, under3, under4, n0, n1, t0, t1, o0, o1, cells3, cells4] at h
            rw [if_neg hq] at h
            cases h
        | _ => simp [Program.keyLits, under3, under4, n0, n1, t0, t1, o0, o1, cells3, cells4] at h
      | _ => simp [Program.keyLits, under3, under4, n0, n1, t0, t1, o0, o1, cells3, cells4] at h
    | tuple cs => simp [Value.formed] at hf
    | _ => simp [Value.formed, hu] at hf
  · cases h

theorem kl_inj {k k' : Int} {s s' : Bool} (h : (Lit.int .i64 k).wf = true) (h' : (Lit.int .i64 k').wf = true) (e : kl k s = kl k' s') : k = k' ∧ s = s' := by
  have := law43.inj (keyOf_kl (s := s) h) (e ▸ keyOf_kl (s := s') h')
  simpa using this

noncomputable abbrev RI : Value → Option (DataW Unit × List MemPlace) := plainElem Try.prog 3

/-- Block b holds, of each state, its number (not nought, or it is not there). -/
def Tab (w : World) (b n : Nat) (f : Int → Bool → Nat) : Prop := ∃ D : DataW Unit, w.ownsMap Try.prog 43 RI b n D ∧
  (∀ k s, (Lit.int .i64 k).wf = true → D.atKey (kl k s) (.lit (.int .i64 0)) = .lit (.int .i64 (f k s))) ∧
  ∀ k s, (Lit.int .i64 k).wf = true → Maps.has D (kl k s) = decide (0 < f k s)

theorem Tab.kept {w w' : World} {b n : Nat} {f : Int → Bool → Nat} {row : Option Nat} (h : Tab w b n f) (hg : w.grownBy w' row) (hne : some b ≠ row) : Tab w' b n f := by
  obtain ⟨D, h1, h2, h3⟩ := h
  exact ⟨D, h1.kept hg hne, h2, h3⟩

theorem Tab.lt {w : World} {b n : Nat} {f : Int → Bool → Nat} (h : Tab w b n f) : b < w.heap.size := by
  obtain ⟨D, h1, _⟩ := h
  exact h1.lt

theorem Tab.made (w : World) : Tab (w.alloc (.map #[] 0)) w.heap.size 0 (fun _ _ => 0) :=
  ⟨.map [], World.ownsMap_made w _ _ _, fun _ _ _ => rfl, fun _ _ _ => rfl⟩

theorem Tab.congr {w : World} {b n : Nat} {f g : Int → Bool → Nat} (h : Tab w b n f) (e : ∀ k s, f k s = g k s) : Tab w b n g := by
  have : f = g := by funext k s; exact e k s
  exact this ▸ h

theorem put_facts {D : DataW Unit} {f : Int → Bool → Nat} {w : World} {b n : Nat} (hown : w.ownsMap Try.prog 43 RI b n D)
    (h2 : ∀ k s, (Lit.int .i64 k).wf = true → D.atKey (kl k s) (.lit (.int .i64 0)) = .lit (.int .i64 (f k s)))
    (h3 : ∀ k s, (Lit.int .i64 k).wf = true → Maps.has D (kl k s) = decide (0 < f k s)) {k0 : Int} {s0 : Bool} {v : Nat} (hw0 : (Lit.int .i64 k0).wf = true) (hv : 0 < v)
    {w' : World} (hown' : w'.ownsMap Try.prog 43 RI b (n + 1) (D.put (kl k0 s0) (.lit (.int .i64 v)))) :
    Tab w' b (n + 1) (fun k s => if k = k0 ∧ s = s0 then v else f k s) := by
  have hD : Maps.IsMap D := by obtain ⟨es, e, _⟩ := hown.entries law43; exact ⟨es, e⟩
  refine ⟨_, hown', fun k s hw => ?_, fun k s hw => ?_⟩
  · by_cases h : k = k0 ∧ s = s0
    · obtain ⟨rfl, rfl⟩ := h
      simp only [and_self, if_true]
      exact Maps.atKey_put_same hD (by trivial) _ _
    · simp only [if_neg h]
      rw [Maps.atKey_put_other (fun e => h (kl_inj hw hw0 e))]
      exact h2 k s hw
  · by_cases h : k = k0 ∧ s = s0
    · obtain ⟨rfl, rfl⟩ := h
      simp only [and_self, if_true, hv, decide_true]
      exact Maps.has_put_same hD (by trivial) _
    · simp only [if_neg h]
      rw [Maps.has_put_other (fun e => h (kl_inj hw hw0 e))]
      exact h3 k s hw

theorem wf_of {k : Int} (h0 : -9223372036854775808 ≤ k) (h1 : k ≤ 9223372036854775807) : (Lit.int .i64 k).wf = true := by
  simp only [Lit.wf, Bool.and_eq_true, decide_eq_true_eq]
  exact ⟨h0, h1⟩

/-- The sum over what has come. -/
def come (r : Ru) (left : Lit → Bool) (F : Int × Bool → Nat) : Nat := min (sumL (uni r) fun t => if left (kl t.1 t.2) = true then 0 else F t) cap

theorem uni_wf {r : Ru} (hok : okR r) {t : Int × Bool} (h : t ∈ uni r) : (Lit.int .i64 t.1).wf = true := by
  obtain ⟨k, s⟩ := t
  have := mem_uni.1 h
  obtain ⟨a, b, _⟩ := hok
  exact wf_of (by simp only; omega) (by simp only; omega)

theorem come_start {r : Ru} (hok : okR r) {D : DataW Unit} {f : Int → Bool → Nat} (h3 : ∀ k s, (Lit.int .i64 k).wf = true → Maps.has D (kl k s) = decide (0 < f k s)) {F : Int × Bool → Nat} (hF : ∀ k s, f k s = 0 → F (k, s) = 0) : come r (Maps.has D) F = 0 := by
  unfold come
  rw [sumL_zero]
  · rfl
  intro t ht
  rw [h3 _ _ (uni_wf hok ht)]
  split
  · rfl
  · rename_i h
    exact hF t.1 t.2 (by simpa using h)

theorem come_end {r : Ru} {left : Lit → Bool} (h : ∀ l, left l = false) (F : Int × Bool → Nat) : come r left F = min (sumL (uni r) F) cap := by
  unfold come
  rw [sumL_congr (G := F)]
  intro t _
  simp [h]

theorem come_step {r : Ru} (hok : okR r) {left : Lit → Bool} {F : Int × Bool → Nat} {k : Int} {s : Bool} (hin : (k, s) ∈ uni r) (hl : left (kl k s) = true) :
    come r (fun z => left z && !z.sameKey (kl k s)) F = min (come r left F + F (k, s)) cap := by
  unfold come
  rw [min_step]
  congr 1
  have hw := uni_wf hok hin
  have hs : (kl k s).sameKey (kl k s) = true := WideAt.sameKey_self (by trivial)
  rw [sumL_one (nodup_uni r) hin (F := fun t => if left (kl t.1 t.2) = true then 0 else F t) (G := fun t => if (left (kl t.1 t.2) && !(kl t.1 t.2).sameKey (kl k s)) = true then 0 else F t)]
  · simp [hs]
  · intro t ht hne
    have : (kl t.1 t.2).sameKey (kl k s) = false := by
      cases h : (kl t.1 t.2).sameKey (kl k s) with
      | false => rfl
      | true =>
        obtain ⟨e1, e2⟩ := kl_inj (uni_wf hok ht) hw (WideAt.sameKey_eq h)
        exact absurd (Prod.ext e1 e2) hne
    simp [this]
  · simp [hl]

end Go.Proofs.Ythdohdllpaijhaa.RMap
