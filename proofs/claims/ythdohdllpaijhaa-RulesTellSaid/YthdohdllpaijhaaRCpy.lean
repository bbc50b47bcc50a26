/- append(append([]int{}, line...), key): the copy, and one number behind it. -/
import Derived.Test.YthdohdllpaijhaaRFind
import Derived.Test.YthdohdllpaijhaaApp
namespace Go.Proofs.Ythdohdllpaijhaa.RCpy
open Go Go.RowKit Go.Proofs.Ythdohdllpaijhaa.RFind Go.Proofs.Ythdohdllpaijhaa.Hp Go.Proofs.Ythdohdllpaijhaa.Rd Go.Proofs.Ythdohdllpaijhaa.App
set_option linter.unusedVariables false

theorem one_int {l : List Int} : ∀ u ∈ l.map (Value.int .i64), u.oneCell' = true := by
  intro u hu
  obtain ⟨n, _, rfl⟩ := List.mem_map.1 hu
  rfl

theorem append_copy {w : World} {ops : Array Oper} {rest : List Oper} {o : Oper} {a : Act} {Q : Exit → Act → World → Prop} (hgd : o.guard = none) (s x : Operand)
    (ho : o.op = .call { callee := .builtin .append, args := #[s, x], argTypes := #[24, 24] }) (vf : Value) (l : List Int) (hs : a.eval s = .slice (some ⟨w.heap.size, 0, none⟩) 0 0) (hx : a.eval x = vf)
    (hil : Ils w vf l) (hm : l.length ≤ 1099511627776)
    (h : ∀ v' w', Hid (w'.ownsRow w.heap.size 3 1 v' l.length (l.map (Value.int .i64))) → Hid (w.grownBy w' none) → wpList Try.prog ops Q rest (a.put o.dst v') w') :
    wpList Try.prog ops Q (o :: rest) a (w.alloc (.cells #[] 3)) := by
  obtain ⟨i0, hi, hz0, hz1, hz2⟩ := info_parts info3
  obtain ⟨ao, c, rfl, hc⟩ := sl_open (Ils.grown hil (grown_alloc (grown_refl _ _) (.cells #[] 3)))
  have hemp : (w.alloc (.cells #[] 3)).ownsRow w.heap.size 3 1 (.slice (some ⟨w.heap.size, 0, none⟩) 0 0) 0 [] := ⟨rfl, .inr ⟨w.heap.size, 0, #[], rfl, Nat.le_refl _, heap_alloc_new _ _, Nat.le_refl _, Nat.zero_le _, rfl, rfl⟩⟩
  refine App.append_in hgd s x 24 ho w.heap.size 3 i0 (.int .i64 0) 8 Try.underlying24 hi hz0 hz1 hz2 rfl _ 0 [] hs hemp ao l.length c (l.map (Value.int .i64)) hx (by simp) (fun j u hu => ?_) one_int (by unfold maxLen; omega) (by omega) (by simp) fun v' w' h1 h2 h3 => ?_
  · rw [List.getElem?_map] at hu
    cases hj : l[j]? with
    | none => rw [hj] at hu; cases hu
    | some y =>
      rw [hj] at hu
      obtain rfl : Value.int .i64 y = u := by simpa using hu
      obtain ⟨b, off, u', e1, e2, e3⟩ := hc j y hj
      subst e3
      exact ⟨b, off, e1, e2⟩
  rw [Nat.zero_add, List.nil_append] at h1
  exact h v' w' h1 (grown_own (row := (Value.slice (some ⟨w.heap.size, 0, none⟩) 0 0).ownBlock) (grown_alloc (grown_refl _ _) _) h2 (fun g hg => Nat.le_of_eq (by simpa [Value.ownBlock] using hg)))

theorem append_last {w0 w : World} {ops : Array Oper} {rest : List Oper} {o : Oper} {a : Act} {Q : Exit → Act → World → Prop} (hgd : o.guard = none) (s x : Operand)
    (ho : o.op = .call { callee := .builtin .append, args := #[s, x], argTypes := #[24, 24] }) (v : Value) (l : List Int) (t : Int) (hs : a.eval s = v) (hx : a.eval x = .slice (some ⟨w.heap.size, 0, none⟩) 1 1)
    (hown : w.ownsRow w0.heap.size 3 1 v l.length (l.map (Value.int .i64))) (hm : l.length ≤ 1099511627776) (hg0 : w0.grownBy w none)
    (h : ∀ v' w', Hid (Ils w' v' (l ++ [t])) → Hid (w0.grownBy w' none) → wpList Try.prog ops Q rest (a.put o.dst v') w') :
    wpList Try.prog ops Q (o :: rest) a (w.alloc (.cells #[.int .i64 t] 3)) := by
  obtain ⟨i0, hi, hz0, hz1, hz2⟩ := info_parts info3
  refine App.append_in hgd s x 24 ho w0.heap.size 3 i0 (.int .i64 0) 8 Try.underlying24 hi hz0 hz1 hz2 rfl _ l.length (l.map (Value.int .i64)) hs (hown.alloc _) (some ⟨w.heap.size, 0, none⟩) 1 1 [.int .i64 t] hx rfl (fun j u hu => ?_) (fun u hu => by simp at hu; subst hu; rfl) (by unfold maxLen; omega) (by omega) (by have := hg0.size; simp; omega) fun v' w' h1 h2 h3 => ?_
  · match j with
    | 0 =>
      obtain rfl : Value.int .i64 t = u := by simpa using hu
      exact ⟨w.heap.size, 0, rfl, by rw [cell_of (heap_alloc_new _ _)]; rfl⟩
    | j + 1 => simp at hu
  · have e : l.map (Value.int .i64) ++ [.int .i64 t] = (l ++ [t]).map (Value.int .i64) := by simp
    rw [e] at h1
    refine h v' w' ?_ (grown_own (row := v.ownBlock) (grown_trans hg0 (grown_alloc (grown_refl _ _) _)) h2 (fun j hj => (own_lt hown hj).2))
    unfold Hid Ils
    exact owns_sl h1 (by rw [List.length_map]) (fun j u y h1 h2 => by rw [List.getElem?_map, h2] at h1; simpa using h1.symm)

end Go.Proofs.Ythdohdllpaijhaa.RCpy
