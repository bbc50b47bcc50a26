/- What measure makes of sections, as it lies in memory. -/
import Derived.Test.YthmcicmebaibgaaTRead
namespace Go.Proofs.Ythmcicmebaibgaa.TSz
open Go Go.RowKit Go.Proofs.Ythmcicmebaibgaa.WMod Go.Proofs.Ythmcicmebaibgaa.TMod Go.Proofs.Ythmcicmebaibgaa.TRead Go.Proofs.Ythmcicmebaibgaa.Opn Go.Proofs.Ythmcicmebaibgaa.Hp Go.Proofs.Ythmcicmebaibgaa.Rd Go.Proofs.Ythmcicmebaibgaa.TWWrong
set_option linter.unusedVariables false

/-- Does something happen in one of them that is played? -/
def someK : For → Bool
  | .nil => false
  | .cons t l evs k r => ((!evs.isEmpty || someK k) && decide (0 < t)) || someK r
def someS (evs : List Ev) (k : For) : Bool := !evs.isEmpty || someK k

theorem some_none : ∀ (f : For) (a : Int), someK f = false → playF f a = []
  | .nil, _, _ => rfl
  | .cons t l evs k r, a, h => by
    simp only [someK, Bool.or_eq_false_iff, Bool.and_eq_false_iff] at h
    obtain ⟨h1, h2⟩ := h
    simp only [playF]
    rw [some_none r _ h2, List.append_nil]
    rcases h1 with ⟨h1, h3⟩ | h1
    · have he : evs = [] := by cases evs with
        | nil => rfl
        | cons => simp at h1
      subst he
      rw [List.flatMap_eq_nil_iff]
      intro j _
      rw [some_none k _ h3]
      rfl
    · have : t.toNat = 0 := by simp at h1; omega
      rw [this]
      rfl

theorem once_none {evs : List Ev} {k : For} (h : someS evs k = false) (a b : Int) : evs.map (shift a) ++ playF k b = [] := by
  simp only [someS, Bool.or_eq_false_iff] at h
  obtain ⟨h1, h2⟩ := h
  have he : evs = [] := by cases evs with
    | nil => rfl
    | cons => simp at h1
  subst he
  rw [some_none k _ h2]
  rfl

/-- Events in blocks that may be read. -/
def EvsA (w : World) (A : Nat → Prop) (v : Value) (es : List Ev) : Prop :=
  (∃ b off cap, A b ∧ v = .slice (some ⟨b, off, none⟩) es.length cap ∧ ∀ i x, es[i]? = some x → w.rangeAt b (off + i * 5) x.cells ∧ x.at_ ≤ 9223372036854775807) ∨ (∃ ao cap, v = .slice ao 0 cap ∧ es = [])

theorem range_kept {w w' : World} {row : Option Nat} {b o : Nat} {cs : List Value} (h : w.rangeAt b o cs) (hg : w.grownBy w' row) (hr : some b ≠ row) : w'.rangeAt b o cs := fun j v hj => hg.cell (h j v hj) hr

theorem EvsA.kept {w w' : World} {A : Nat → Prop} {v : Value} {es : List Ev} {row : Option Nat} (h : EvsA w A v es) (hg : w.grownBy w' row) (hr : ∀ b, row = some b → ¬ A b) : EvsA w' A v es := by
  rcases h with ⟨b, off, cap, hA, e, h⟩ | h
  · exact .inl ⟨b, off, cap, hA, e, fun i x hx => ⟨range_kept (h i x hx).1 hg (fun e => hr b e.symm hA), (h i x hx).2⟩⟩
  · exact .inr h
theorem EvsA.mono {w : World} {A A' : Nat → Prop} {v : Value} {es : List Ev} (h : EvsA w A v es) (hA : ∀ b, A b → A' b) : EvsA w A' v es := by
  rcases h with ⟨b, off, cap, ha, e, h⟩ | h
  · exact .inl ⟨b, off, cap, hA b ha, e, h⟩
  · exact .inr h
theorem EvsA.evs {w : World} {A : Nat → Prop} {v : Value} {es : List Ev} (h : EvsA w A v es) : Evs w v es := by
  rcases h with ⟨b, off, cap, _, e, h⟩ | h
  · exact .inl ⟨b, off, cap, e, fun i x hx => ⟨x.cells, rfl, fun j u hj => by rw [← Nat.add_assoc]; exact (h i x hx).1 j u hj, rfl, (h i x hx).2⟩⟩
  · exact .inr h

/-- The eight cells of what is made of a section. -/
abbrev SlP := Option Addr × Nat × Nat
def szC (t l : Int) (evs : List Ev) (k : For) (ve : Value) (vs : SlP) (vk : Value) : List Value := [.int .i64 t, .int .i64 l, ve, .slice vs.1 vs.2.1 vs.2.2, .int .i64 (l + dur k), .int .i64 (t * (l + dur k)), .bool (someS evs k), vk]

inductive SzV (w : World) (A : Nat → Prop) : Value → For → Prop
  | mt (ao : Option Addr) (c : Nat) : SzV w A (.slice ao 0 c) .nil
  | row (b off c : Nat) (f : For) (ve : Nat → Value) (vs : Nat → SlP) (vk : Nat → Value) (hA : A b)
      (hc : ∀ j t l evs k r, f.drop j = .cons t l evs k r → w.rangeAt b (off + j * 8) (szC t l evs k (ve j) (vs j) (vk j)))
      (he : ∀ j t l evs k r, f.drop j = .cons t l evs k r → EvsA w A (ve j) evs)
      (hk : ∀ j t l evs k r, f.drop j = .cons t l evs k r → SzV w A (vk j) k) : SzV w A (.slice (some ⟨b, off, none⟩) f.len c) f

theorem SzV.kept {w w' : World} {A : Nat → Prop} {v : Value} {f : For} {row : Option Nat} (h : SzV w A v f) (hg : w.grownBy w' row) (hr : ∀ b, row = some b → ¬ A b) : SzV w' A v f := by
  induction h with
  | mt ao c => exact .mt ao c
  | row b off c f ve vs vk hA hc he hk ih =>
    exact .row b off c f ve vs vk hA (fun j t l evs k r hd => range_kept (hc j t l evs k r hd) hg (fun e => hr b e.symm hA)) (fun j t l evs k r hd => (he j t l evs k r hd).kept hg hr) ih

theorem SzV.mono {w : World} {A A' : Nat → Prop} {v : Value} {f : For} (h : SzV w A v f) (hA : ∀ b, A b → A' b) : SzV w A' v f := by
  induction h with
  | mt ao c => exact .mt ao c
  | row b off c f ve vs vk ha hc he hk ih =>
    exact .row b off c f ve vs vk (hA b ha) hc (fun j t l evs k r hd => (he j t l evs k r hd).mono hA) ih

theorem szv_open {w : World} {A : Nat → Prop} {v : Value} {f : For} (h : SzV w A v f) : ∃ ao c, v = .slice ao f.len c := by
  cases h with
  | mt ao c => exact ⟨ao, c, rfl⟩
  | row b off c => exact ⟨_, c, rfl⟩

theorem szv_at {w : World} {A : Nat → Prop} {ao : Option Addr} {m c : Nat} {f : For} (h : SzV w A (.slice ao m c) f) {j : Nat} {t l : Int} {evs : List Ev} {k r : For} (hd : f.drop j = .cons t l evs k r) :
    ∃ b off ve vs vk, ao = some ⟨b, off, none⟩ ∧ A b ∧ w.rangeAt b (off + j * 8) (szC t l evs k ve vs vk) ∧ EvsA w A ve evs ∧ SzV w A vk k := by
  cases h with
  | mt => rw [For.drop_nil] at hd; cases hd
  | row b off c f ve vs vk hA hc he hk => exact ⟨b, off, ve j, vs j, vk j, rfl, hA, hc j t l evs k r hd, he j t l evs k r hd, hk j t l evs k r hd⟩

/-- The first i of them, as cells. -/
def Els (w : World) (A : Nat → Prop) (f : For) (i : Nat) (cs : List Value) : Prop :=
  cs.length = i * 8 ∧ ∀ j t l evs k r, j < i → f.drop j = .cons t l evs k r → ∃ ve vs vk, (∀ q u, (szC t l evs k ve vs vk)[q]? = some u → cs[j * 8 + q]? = some u) ∧ EvsA w A ve evs ∧ SzV w A vk k

theorem Els.kept {w w' : World} {A : Nat → Prop} {f : For} {i : Nat} {cs : List Value} {row : Option Nat} (h : Els w A f i cs) (hg : w.grownBy w' row) (hr : ∀ b, row = some b → ¬ A b) : Els w' A f i cs :=
  ⟨h.1, fun j t l evs k r hj hd => let ⟨ve, vs, vk, h1, h2, h3⟩ := h.2 j t l evs k r hj hd; ⟨ve, vs, vk, h1, h2.kept hg hr, h3.kept hg hr⟩⟩
theorem Els.mono {w : World} {A A' : Nat → Prop} {f : For} {i : Nat} {cs : List Value} (h : Els w A f i cs) (hA : ∀ b, A b → A' b) : Els w A' f i cs :=
  ⟨h.1, fun j t l evs k r hj hd => let ⟨ve, vs, vk, h1, h2, h3⟩ := h.2 j t l evs k r hj hd; ⟨ve, vs, vk, h1, h2.mono hA, h3.mono hA⟩⟩
theorem Els.zero (w : World) (A : Nat → Prop) (f : For) : Els w A f 0 [] := ⟨rfl, fun j _ _ _ _ _ hj => absurd hj (by omega)⟩

theorem szC_len (t l : Int) (evs : List Ev) (k : For) (ve : Value) (vs : SlP) (vk : Value) : (szC t l evs k ve vs vk).length = 8 := rfl

theorem Els.next {w : World} {A : Nat → Prop} {f : For} {i : Nat} {cs : List Value} (h : Els w A f i cs) {t l : Int} {evs : List Ev} {k r : For} (hd : f.drop i = .cons t l evs k r) {ve : Value} {vs : SlP} {vk : Value} (he : EvsA w A ve evs) (hk : SzV w A vk k) :
    Els w A f (i + 1) (cs ++ szC t l evs k ve vs vk) := by
  refine ⟨by rw [List.length_append, h.1, szC_len]; omega, fun j t' l' evs' k' r' hj hd' => ?_⟩
  by_cases e : j = i
  · subst e
    rw [hd] at hd'
    cases hd'
    refine ⟨ve, vs, vk, fun q u hu => ?_, he, hk⟩
    rw [List.getElem?_append_right (by rw [h.1]; omega), h.1, Nat.add_sub_cancel_left]
    exact hu
  · obtain ⟨ve', vs', vk', h1, h2, h3⟩ := h.2 j t' l' evs' k' r' (by omega) hd'
    refine ⟨ve', vs', vk', fun q u hu => ?_, h2, h3⟩
    have hq : q < 8 := by have := (List.getElem?_eq_some_iff.1 hu).1; rw [szC_len] at this; exact this
    rw [List.getElem?_append_left (by rw [h.1]; omega)]
    exact h1 q u hu

/-- All of them, in a row of their own. -/
theorem Els.szv {w : World} {A : Nat → Prop} {f : For} {cs : List Value} (h : Els w A f f.len cs) {g cap : Nat} (hA : A g) (hc : ∀ j u, cs[j]? = some u → w.cell? ⟨g, j, none⟩ = some u) : SzV w A (.slice (some ⟨g, 0, none⟩) f.len cap) f := by
  have key : ∀ j, ∃ p : Value × SlP × Value, ∀ t l evs k r, f.drop j = .cons t l evs k r → (∀ q u, (szC t l evs k p.1 p.2.1 p.2.2)[q]? = some u → cs[j * 8 + q]? = some u) ∧ EvsA w A p.1 evs ∧ SzV w A p.2.2 k := by
    intro j
    by_cases hj : j < f.len
    · obtain ⟨t, l, evs, k, r, hd⟩ := For.drop_cons hj
      obtain ⟨ve, vs, vk, h1, h2, h3⟩ := h.2 j t l evs k r hj hd
      refine ⟨(ve, vs, vk), fun t' l' evs' k' r' hd' => ?_⟩
      rw [hd] at hd'
      cases hd'
      exact ⟨h1, h2, h3⟩
    · refine ⟨(undef, (none, 0, 0), undef), fun t l evs k r hd => ?_⟩
      have := For.len_drop j f
      rw [hd] at this
      simp only [For.len] at this
      omega
  refine .row g 0 cap f (fun j => (Classical.choose (key j)).1) (fun j => (Classical.choose (key j)).2.1) (fun j => (Classical.choose (key j)).2.2) hA ?_ ?_ ?_
  · intro j t l evs k r hd q u hu
    rw [Nat.zero_add]
    exact hc _ _ ((Classical.choose_spec (key j) t l evs k r hd).1 q u hu)
  · exact fun j t l evs k r hd => (Classical.choose_spec (key j) t l evs k r hd).2.1
  · exact fun j t l evs k r hd => (Classical.choose_spec (key j) t l evs k r hd).2.2

end Go.Proofs.Ythmcicmebaibgaa.TSz
