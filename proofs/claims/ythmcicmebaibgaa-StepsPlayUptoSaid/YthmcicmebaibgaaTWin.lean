/- A window in memory: from, till, what has happened there so far. -/
import Derived.Test.YthmcicmebaibgaaTApp
namespace Go.Proofs.Ythmcicmebaibgaa.TWin
open Go Go.RowKit Go.Proofs.Ythmcicmebaibgaa.WMod Go.Proofs.Ythmcicmebaibgaa.TMod Go.Proofs.Ythmcicmebaibgaa.TRead Go.Proofs.Ythmcicmebaibgaa.TSz Go.Proofs.Ythmcicmebaibgaa.TEv Go.Proofs.Ythmcicmebaibgaa.Opn Go.Proofs.Ythmcicmebaibgaa.Hp Go.Proofs.Ythmcicmebaibgaa.Rd Go.Proofs.Ythmcicmebaibgaa.TWWrong
set_option linter.unusedVariables false

def wiC (fr till : Int) (v : Value) (b : Bool) : Array Value := #[.int .i64 fr, .int .i64 till, v, .bool b]

/-- The first 4096 of them lie there; is there one more? -/
structure WinS (w0 w : World) (wb : Nat) (fr till : Int) (X : List Ev) : Prop where
  gr : w0.grownBy w none
  bs : w0.heap.size ≤ wb
  ex : ∃ ao c, w.heap[wb]? = some (.cells (wiC fr till (.slice ao (X.take 4096).length c) (decide (4096 < X.length))) 69 (0, 0)) ∧ (Value.slice ao (X.take 4096).length c).ownBlock ≠ some wb ∧ w.ownsRow w0.heap.size 60 5 (.slice ao (X.take 4096).length c) (X.take 4096).length (evC (X.take 4096))

theorem own_kept {w w' : World} {B : Nat} {e : TypeId} {sz : Nat} {v : Value} {n : Nat} {xs : List Value} (h : w.ownsRow B e sz v n xs) (hg : w.grownBy w' none) : w'.ownsRow B e sz v n xs := h.kept hg (by cases v.ownBlock <;> simp)

theorem own_slice {w : World} {B : Nat} {e : TypeId} {sz : Nat} {v : Value} {n : Nat} {xs : List Value} (h : w.ownsRow B e sz v n xs) : ∃ ao c, v = .slice ao n c := by
  rcases h.2 with ⟨rfl, rfl⟩ | ⟨g, cap, cur, rfl, _⟩
  · exact ⟨_, _, rfl⟩
  · exact ⟨_, _, rfl⟩

theorem row_kept {a b : World} {row : Option Nat} (h : a.grownBy b row) {i : Nat} {o : Obj} (hi : a.heap[i]? = some o) (hr : some i ≠ row) : b.heap[i]? = some o := by
  rw [h.block i (lt_of hi) hr]
  exact hi

theorem WinS.kept {w0 w w' : World} {wb : Nat} {fr till : Int} {X : List Ev} (h : WinS w0 w wb fr till X) (hg : w.grownBy w' none) : WinS w0 w' wb fr till X := by
  obtain ⟨g, b, ao, c, h1, h2, h3⟩ := h
  exact ⟨grown_trans g hg, b, ao, c, row_kept hg h1 (by simp), h2, own_kept h3 hg⟩

theorem WinS.full {w0 w : World} {wb : Nat} {fr till : Int} {X : List Ev} (h : WinS w0 w wb fr till X) (hf : 4096 < X.length) (Y : List Ev) : WinS w0 w wb fr till (X ++ Y) := by
  obtain ⟨g, b, ao, c, h1, h2, h3⟩ := h
  have e1 : (X ++ Y).take 4096 = X.take 4096 := List.take_append_of_le_length (by omega)
  have e2 : decide (4096 < (X ++ Y).length) = decide (4096 < X.length) := by
    rw [decide_eq_true hf]
    exact decide_eq_true (by rw [List.length_append]; omega)
  refine ⟨g, b, ao, c, ?_, ?_, ?_⟩
  · rw [e1, e2]; exact h1
  · rw [e1]; exact h2
  · rw [e1]; exact h3

theorem WinS.fill {w0 w : World} {wb : Nat} {fr till : Int} {X : List Ev} (h : WinS w0 w wb fr till X) (hf : 4096 ≤ X.length) {Y : List Ev} (hY : Y ≠ []) : WinS w0 (w.setCell ⟨wb, 3, none⟩ (.bool true)) wb fr till (X ++ Y) := by
  obtain ⟨g, b, ao, c, h1, h2, h3⟩ := h
  have hl : 0 < Y.length := List.length_pos_iff.2 hY
  have e1 : (X ++ Y).take 4096 = X.take 4096 := List.take_append_of_le_length (by omega)
  have e2 : decide (4096 < (X ++ Y).length) = true := decide_eq_true (by rw [List.length_append]; omega)
  refine ⟨grown_set g (.inr b) _, b, ao, c, ?_, ?_, ?_⟩
  · rw [e1, e2, set_self h1]; rfl
  · rw [e1]; exact h2
  · rw [e1]
    exact h3.kept (row := some wb) (grown_set (grown_refl _ _) (.inl rfl) _) (.inr h2)

theorem WinS.push {w0 w w1 : World} {wb : Nat} {fr till : Int} {X : List Ev} {e : Ev} {ao : Option Addr} {c : Nat} {v : Value} (g : w0.grownBy w none) (b : w0.heap.size ≤ wb) (hX : X.length < 4096)
    (h1 : w.heap[wb]? = some (.cells (wiC fr till (.slice ao X.length c) false) 69 (0, 0))) (h2 : (Value.slice ao X.length c).ownBlock ≠ some wb) (h3 : w.ownsRow w0.heap.size 60 5 (.slice ao X.length c) X.length (evC X))
    (hown : w1.ownsRow w0.heap.size 60 5 v (X.length + 1) (evC X ++ e.cells)) (hg : w.grownBy w1 (Value.slice ao X.length c).ownBlock) (hat : v.ownBlock = (Value.slice ao X.length c).ownBlock ∨ ∃ q, v.ownBlock = some q ∧ w.heap.size ≤ q) :
    WinS w0 (w1.setCell ⟨wb, 2, none⟩ v) wb fr till (X ++ [e]) := by
  have e1 : (X ++ [e]).take 4096 = X ++ [e] := List.take_of_length_le (by rw [List.length_append, List.length_singleton]; omega)
  have e2 : decide (4096 < (X ++ [e]).length) = false := decide_eq_false (by rw [List.length_append, List.length_singleton]; omega)
  have e3 : (X ++ [e]).length = X.length + 1 := by rw [List.length_append, List.length_singleton]
  obtain ⟨ao', c', rfl⟩ := own_slice hown
  have hr := row_kept hg h1 (fun e => h2 e.symm)
  have hlt := lt_of h1
  have hne : (Value.slice ao' (X.length + 1) c').ownBlock ≠ some wb := by
    rcases hat with hat | ⟨q, hat, hq⟩
    · rw [hat]; exact h2
    · rw [hat]; simp; omega
  refine ⟨grown_set (grown_app g (Nat.le_refl _) h3 hg) (.inr b) _, b, ao', c', ?_, ?_, ?_⟩
  · rw [e1, e2, e3, set_self hr]; rfl
  · rw [e1, e3]; exact hne
  · rw [e1, e3, evC_snoc]
    exact hown.kept (row := some wb) (grown_set (grown_refl _ _) (.inl rfl) _) (.inr hne)

/-- Which rows may turn. -/
theorem WinS.fill_gr {w0 w : World} {wb : Nat} {fr till : Int} {X : List Ev} (h : WinS w0 w wb fr till X) (u : Value) : Gr w0.heap.size [69, 60] w (w.setCell ⟨wb, 3, none⟩ u) := by
  obtain ⟨g, b, ao, c, h1, h2, h3⟩ := h
  exact Gr.of_some (grown_set (grown_refl _ (some wb)) (.inl rfl) _) h1 (by simp) b

theorem push_gr {B : Nat} {w w1 : World} {wb : Nat} {cs : Array Value} {v v' : Value} {n : Nat} {xs : List Value} (b : B ≤ wb)
    (h1 : w.heap[wb]? = some (.cells cs 69 (0, 0))) (h2 : v.ownBlock ≠ some wb) (h3 : w.ownsRow B 60 5 v n xs) (hg : w.grownBy w1 v.ownBlock) : Gr B [69, 60] w (w1.setCell ⟨wb, 2, none⟩ v') := by
  have g1 : Gr B [69, 60] w w1 := by
    refine Gr.of_row (e := 60) hg (fun k hk => ⟨(own_base h3 hk).1, .inr ?_⟩) (by simp)
    rcases h3.2 with ⟨rfl, _⟩ | ⟨g, cap, cur, rfl, hB, hgg, _⟩
    · cases hk
    · injection hk with hk
      subst hk
      exact ⟨_, _, hgg⟩
  exact g1.set (row_kept hg h1 (fun e => h2 e.symm)) (by simp) b _

/-- A new one. -/
theorem WinS.new (w : World) (fr till : Int) : WinS w (w.alloc (.cells (wiC fr till (.slice none 0 0) false) 69)) w.heap.size fr till [] :=
  ⟨grown_alloc (grown_refl _ _) _, Nat.le_refl _, none, 0, heap_alloc_new _ _, by simp [Value.ownBlock], World.ownsRow_nil _ _ _ _⟩

theorem inW_cons (fr till : Int) (X : List Ev) (es : List Ev) (a : Int) (i : Nat) (e : Ev) (h : es[i]? = some e) :
    X ++ win fr till ((es.take (i + 1)).map (shift a)) = (X ++ win fr till ((es.take i).map (shift a))) ++ if inW fr till (shift a e) = true then [shift a e] else [] := by
  rw [List.take_add_one, h, Option.toList_some, List.map_append, win_append, List.append_assoc]
  congr 2
  unfold win
  simp only [List.map_cons, List.map_nil, List.filter_cons, List.filter_nil]

/-- .. and those that are behind. -/
theorem inW_rest (fr till : Int) (X : List Ev) (es : List Ev) (a : Int) (i : Nat) :
    X ++ win fr till (es.map (shift a)) = (X ++ win fr till ((es.take i).map (shift a))) ++ win fr till ((es.drop i).map (shift a)) := by
  rw [List.append_assoc, ← win_append, ← List.map_append, List.take_append_drop]

theorem inW_ne (fr till : Int) (es : List Ev) (a : Int) (i : Nat) (e : Ev) (h : es[i]? = some e) (hw : inW fr till (shift a e) = true) : win fr till ((es.drop i).map (shift a)) ≠ [] := by
  obtain ⟨hi, rfl⟩ := List.getElem?_eq_some_iff.1 h
  rw [List.drop_eq_getElem_cons hi]
  unfold win
  rw [List.map_cons, List.filter_cons_of_pos hw]
  simp

end Go.Proofs.Ythmcicmebaibgaa.TWin
