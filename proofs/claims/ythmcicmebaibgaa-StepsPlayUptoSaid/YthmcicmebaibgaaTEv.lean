/- Rows of events that the call itself has made; a copy of events. -/
import Derived.Test.YthmcicmebaibgaaTSz
import Derived.Maps.AppendAt
import Derived.Laws.OwnMore
import Derived.WalkSpells
namespace Go.Proofs.Ythmcicmebaibgaa.TEv
open Go Go.RowKit Go.Proofs.Ythmcicmebaibgaa.WMod Go.Proofs.Ythmcicmebaibgaa.TMod Go.Proofs.Ythmcicmebaibgaa.TRead Go.Proofs.Ythmcicmebaibgaa.TSz Go.Proofs.Ythmcicmebaibgaa.Opn Go.Proofs.Ythmcicmebaibgaa.Hp Go.Proofs.Ythmcicmebaibgaa.Rd Go.Proofs.Ythmcicmebaibgaa.TWWrong
set_option linter.unusedVariables false
set_option linter.unusedSimpArgs false

theorem info60 : (Try.prog.info? 60).map (fun i => (i.zero, i.size, i.bytes)) = some (some (.agg #[.int .i64 0, .int .i64 0, .int .i64 0, .int .i64 0, .int .i64 0]), 5, 40) := by kernel_rfl

theorem own_base {w : World} {B : Nat} {e : TypeId} {sz : Nat} {v : Value} {n : Nat} {xs : List Value} (h : w.ownsRow B e sz v n xs) {b : Nat} (hb : v.ownBlock = some b) : B ≤ b ∧ b < w.heap.size := by
  rcases h.2 with ⟨rfl, _⟩ | ⟨b', cap, cur, rfl, hB, hg, _⟩
  · cases hb
  · injection hb with hb
    subst hb
    exact ⟨hB, lt_of hg⟩

theorem grown_app {w0 w w' : World} {B : Nat} {e : TypeId} {sz : Nat} {v : Value} {n : Nat} {xs : List Value} (h0 : w0.grownBy w none) (hB : w0.heap.size ≤ B) (h : w.ownsRow B e sz v n xs) (hg : w.grownBy w' v.ownBlock) : w0.grownBy w' none := by
  cases hv : v.ownBlock with
  | none => rw [hv] at hg; exact grown_trans h0 hg
  | some b => rw [hv] at hg; exact grown_from h0 hg (.inl (Nat.le_trans hB (own_base h hv).1))

def evC (es : List Ev) : List Value := es.flatMap Ev.cells
theorem evC_len (es : List Ev) : (evC es).length = es.length * 5 := by
  induction es with
  | nil => rfl
  | cons e es ih => simp only [evC, List.flatMap_cons, List.length_append, List.length_cons] at *; rw [ih]; simp [Ev.cells]; omega
theorem evC_snoc (es : List Ev) (e : Ev) : evC (es ++ [e]) = evC es ++ e.cells := by simp [evC]

theorem evC_get (es : List Ev) (i : Nat) (e : Ev) (h : es[i]? = some e) (j : Nat) (hj : j < 5) : (evC es)[i * 5 + j]? = e.cells[j]? := by
  induction es generalizing i with
  | nil => simp at h
  | cons a es ih =>
    have hc : a.cells.length = 5 := rfl
    cases i with
    | zero =>
      simp only [List.getElem?_cons_zero, Option.some.injEq] at h
      subst h
      simp only [evC, List.flatMap_cons]
      rw [List.getElem?_append_left (by rw [hc]; omega)]
      congr 1
      omega
    | succ i =>
      simp only [List.getElem?_cons_succ] at h
      have := ih i h
      simp only [evC, List.flatMap_cons] at *
      rw [List.getElem?_append_right (by rw [hc]; omega), hc, ← this]
      congr 1
      omega

/-- .. and each of its cells is one of an event's. -/
theorem evC_split {es : List Ev} {j : Nat} {u : Value} (h : (evC es)[j]? = some u) : ∃ e, es[j / 5]? = some e ∧ e.cells[j % 5]? = some u := by
  have hj : j < (evC es).length := (List.getElem?_eq_some_iff.1 h).1
  rw [evC_len] at hj
  have hi : j / 5 < es.length := by omega
  refine ⟨es[j / 5], List.getElem?_eq_getElem hi, ?_⟩
  rw [← evC_get es (j / 5) _ (List.getElem?_eq_getElem hi) (j % 5) (by omega), show j / 5 * 5 + j % 5 = j from by omega]
  exact h

theorem evC_one {es : List Ev} : ∀ u ∈ evC es, u.oneCell' = true := by
  intro u hu
  simp only [evC, List.mem_flatMap] at hu
  obtain ⟨e, _, hu⟩ := hu
  simp only [Ev.cells, List.mem_cons, List.not_mem_nil, or_false] at hu
  rcases hu with rfl | rfl | rfl | rfl | rfl <;> rfl

theorem evsA_of_own {w : World} {B : Nat} {v : Value} {es : List Ev} (h : w.ownsRow B 60 5 v es.length (evC es)) (hm : ∀ e ∈ es, e.at_ ≤ 9223372036854775807) (A : Nat → Prop) (hA : ∀ b, v.ownBlock = some b → A b) : EvsA w A v es := by
  rcases h.2 with ⟨rfl, hn⟩ | ⟨g, cap, cur, rfl, _, hgg, hc, hm1, hsz, ht⟩
  · exact .inr ⟨none, 0, rfl, List.eq_nil_of_length_eq_zero hn⟩
  · refine .inl ⟨g, 0, cap, hA g rfl, rfl, fun i e he => ⟨fun j u hu => ?_, hm e (List.mem_of_getElem? he)⟩⟩
    have hj : j < 5 := by have := (List.getElem?_eq_some_iff.1 hu).1; simpa [Ev.cells] using this
    have hi : i < es.length := (List.getElem?_eq_some_iff.1 he).1
    have h1 := evC_get es i e he j hj
    rw [hu, ← ht, List.getElem?_take, if_pos (by omega), Array.getElem?_toList] at h1
    rw [Nat.zero_add, cell_of hgg]
    exact h1

theorem evs_max {w : World} {v : Value} {es : List Ev} (h : Evs w v es) : ∀ e ∈ es, e.at_ ≤ 9223372036854775807 := by
  intro e he
  obtain ⟨i, hi, rfl⟩ := List.mem_iff_getElem.1 he
  rcases h with ⟨b, off, cap, rfl, h⟩ | ⟨_, _, _, rfl⟩
  · obtain ⟨cs, _, _, _, h4⟩ := h i _ (List.getElem?_eq_getElem hi)
    exact h4
  · cases hi

/-- All events of a slice behind a new empty row. -/
theorem append_evs {w : World} {ops : Array Oper} {rest : List Oper} {o : Oper} {a : Act} {Q : Exit → Act → World → Prop} (hgd : o.guard = none) (s x : Operand)
    (ho : o.op = .call { callee := .builtin .append, args := #[s, x], argTypes := #[32, 32] }) (ad : Addr) (n c : Nat) (es : List Ev) (hs : a.eval s = .slice (some ⟨w.heap.size, 0, none⟩) 0 0) (hx : a.eval x = .slice (some ad) n c)
    (hn : es.length = n) (hil : Evs w (.slice (some ad) n c) es) (hm : n ≤ 1099511627776)
    (h : ∀ v' w', Hid (EvsA w' (fun q => w.heap.size ≤ q ∧ q < w'.heap.size) v' es) → Hid (w.grownBy w' none) → wpList Try.prog ops Q rest (a.put o.dst v') w') :
    wpList Try.prog ops Q (o :: rest) a (w.alloc (.cells #[] 60)) := by
  obtain ⟨i0, hi, hz0, hz1, hz2⟩ := info_parts info60
  have hga : w.grownBy (w.alloc (.cells #[] 60)) none := grown_alloc (grown_refl _ _) _
  have hemp : (w.alloc (.cells #[] 60)).ownsRow w.heap.size 60 5 (.slice (some ⟨w.heap.size, 0, none⟩) 0 0) 0 [] := ⟨rfl, .inr ⟨w.heap.size, 0, #[], rfl, Nat.le_refl _, heap_alloc_new _ _, Nat.le_refl _, Nat.zero_le _, rfl, rfl⟩⟩
  refine wpList_append_own_at _ hgd s x 32 ho w.heap.size 60 i0 (.agg #[.int .i64 0, .int .i64 0, .int .i64 0, .int .i64 0, .int .i64 0]) 5 40 Try.underlying32 hi hz0 hz1 hz2 rfl (by decide) _ 0 [] hs hemp ad n c (evC es) hx (by rw [evC_len, hn]) ?_ evC_one (by unfold maxLen; omega) (by omega) (by simp) ?_
  · intro j u hu
    obtain ⟨e, he, hu2⟩ := evC_split hu
    rcases hil with ⟨b, off, cap', hh, hel⟩ | ⟨_, _, _, rfl⟩
    · simp only [Value.slice.injEq, Option.some.injEq] at hh
      obtain ⟨rfl, _, rfl⟩ := hh
      rw [show ((⟨b, off, none⟩ : Addr).add j) = ⟨b, off + j, none⟩ from Addr.add_lit _ _ _]
      obtain ⟨cs, _, h2, rfl, _⟩ := hel (j / 5) e he
      have := h2 (j % 5) u hu2
      rw [show off + j = off + (j / 5 * 5 + j % 5) from by omega]
      exact grown_cell hga this (by simp)
    · simp at he
  · intro v' w' hown hg hsz hat
    rw [Nat.zero_add, List.nil_append] at hown
    have hlt : ∀ q, v'.ownBlock = some q → w.heap.size ≤ q ∧ q < w'.heap.size := fun q hq => own_base hown hq
    refine h v' w' ?_ ?_
    · rw [← hn] at hown
      exact evsA_of_own hown (evs_max hil) _ hlt
    · exact grown_app hga (Nat.le_refl _) hemp hg

set_option maxHeartbeats 1000000 in
set_option maxRecDepth 100000 in
theorem clone_calls (ao : Option Addr) (c : Nat) (es : List Ev) (w : World) (hv : Evs w (.slice ao es.length c) es) (hm : es.length ≤ 1099511627776) :
    Calls Try.prog 27 #[.slice ao es.length c] w fun e w' => ∃ v, e = .returned v ∧ Hid (EvsA w' (fun q => w.heap.size ≤ q ∧ q < w'.heap.size) v es) ∧ Hid (w.grownBy w' none) := by
  obtain ⟨n, hn⟩ : ∃ n, es.length = n := ⟨_, rfl⟩
  have HN := Lib.hid hn
  rw [hn] at hv hm ⊢
  have HV := Lib.hid hv
  clear hv hn
  have hnil := fun (w : World) => Lib.run_eql_slice_nil (P := Try.prog) w 32 60 ao n c 0 0 Try.underlying32
  cases ao with
  | none =>
    have HE : Hid (es = []) := by
      rcases HV.out with ⟨b, off, cap', hh, _⟩ | ⟨_, _, _, hnil⟩
      · simp at hh
      · exact hnil
    simp only [Option.isNone_none] at hnil
    go_enter Try.func27, Try.ntmps27
    go_wp2_with fail
    go_ret
    exact ⟨_, rfl, .inr ⟨none, 0, rfl, HE.out⟩, grown_refl _ _⟩
  | some ad =>
    simp only [Option.isNone_some] at hnil
    go_enter Try.func27, Try.ntmps27
    go_wp2_with (at_builtin; refine append_evs rfl _ _ rfl ad n c es rfl rfl HN.out HV.out hm ?_; intro v2 w2 h2 hg2)
    go_ret
    exact ⟨_, rfl, h2.out, hg2.out⟩
end Go.Proofs.Ythmcicmebaibgaa.TEv
