/- Sections, as they lie in memory. -/
import Derived.Test.YthmcicmebaibgaaTMod
import Derived.Test.YthmcicmebaibgaaTWWrong
namespace Go.Proofs.Ythmcicmebaibgaa.TRead
open Go Go.RowKit Go.Proofs.Ythmcicmebaibgaa.WMod Go.Proofs.Ythmcicmebaibgaa.TMod Go.Proofs.Ythmcicmebaibgaa.Opn Go.Proofs.Ythmcicmebaibgaa.Hp Go.Proofs.Ythmcicmebaibgaa.Rd Go.Proofs.Ythmcicmebaibgaa.TWWrong
set_option linter.unusedVariables false

/-- Sections that lie one behind the other, from a cell on. -/
def Rows (w : World) : For → Nat → Nat → Prop
  | .nil, _, _ => True
  | .cons t l evs k r, b, off => (∃ ve vk, w.cell? ⟨b, off, none⟩ = some (.int .i64 t) ∧ w.cell? ⟨b, off + 1, none⟩ = some (.int .i64 l) ∧ w.cell? ⟨b, off + 2, none⟩ = some ve ∧ w.cell? ⟨b, off + 3, none⟩ = some vk ∧ Evs w ve evs ∧
      ((k = .nil ∧ ∃ ao c, vk = .slice ao 0 c) ∨ ∃ kb ko kc, vk = .slice (some ⟨kb, ko, none⟩) k.len kc ∧ Rows w k kb ko)) ∧ Rows w r b (off + 4)

/-- A slice of sections. -/
def Secs (w : World) (v : Value) (f : For) : Prop := (f = .nil ∧ ∃ ao c, v = .slice ao 0 c) ∨ ∃ b o c, v = .slice (some ⟨b, o, none⟩) f.len c ∧ Rows w f b o

theorem evs_grown {w w' : World} {v : Value} {es : List Ev} (h : Evs w v es) (hg : w.grownBy w' none) : Evs w' v es := Slc.grown h hg fun _ _ h => h

theorem Rows.grown {w w' : World} (hg : w.grownBy w' none) : ∀ {f : For} {b o : Nat}, Rows w f b o → Rows w' f b o
  | .nil, _, _, _ => trivial
  | .cons t l evs k r, b, o, h => by
    obtain ⟨⟨ve, vk, h1, h2, h3, h4, h5, h6⟩, h7⟩ := h
    refine ⟨⟨ve, vk, grown_cell hg h1 (by simp), grown_cell hg h2 (by simp), grown_cell hg h3 (by simp), grown_cell hg h4 (by simp), evs_grown h5 hg, ?_⟩, Rows.grown hg h7⟩
    rcases h6 with h6 | ⟨kb, ko, kc, e, h6⟩
    · exact .inl h6
    · exact .inr ⟨kb, ko, kc, e, Rows.grown hg h6⟩

theorem Secs.grown {w w' : World} {v : Value} {f : For} (h : Secs w v f) (hg : w.grownBy w' none) : Secs w' v f := by
  rcases h with h | ⟨b, o, c, e, h⟩
  · exact .inl h
  · exact .inr ⟨b, o, c, e, Rows.grown hg h⟩

theorem Rows.drop {w : World} : ∀ (n : Nat) {f : For} {b o : Nat}, Rows w f b o → Rows w (f.drop n) b (o + n * 4)
  | 0, f, b, o, h => by rw [Nat.zero_mul, Nat.add_zero]; exact h
  | n + 1, .nil, b, o, h => trivial
  | n + 1, .cons t l evs k r, b, o, h => by
    have := Rows.drop n h.2
    rw [show o + (n + 1) * 4 = o + 4 + n * 4 from by omega]
    exact this

theorem secs_open {w : World} {v : Value} {f : For} (h : Secs w v f) : ∃ ao c, v = .slice ao f.len c := by
  rcases h with ⟨rfl, ao, c, rfl⟩ | ⟨b, o, c, rfl, _⟩
  · exact ⟨ao, c, rfl⟩
  · exact ⟨_, c, rfl⟩

/-- The n-th one: its cells, its events, its kids. -/
theorem secs_at {w : World} {ao : Option Addr} {m c : Nat} {f : For} (h : Secs w (.slice ao m c) f) {n : Nat} {t l : Int} {evs : List Ev} {k r : For} (hd : f.drop n = .cons t l evs k r) :
    ∃ b o ve vk, ao = some ⟨b, o, none⟩ ∧ w.cell? ⟨b, o + n * 4, none⟩ = some (.int .i64 t) ∧ w.cell? ⟨b, o + n * 4 + 1, none⟩ = some (.int .i64 l) ∧ w.cell? ⟨b, o + n * 4 + 2, none⟩ = some ve ∧ w.cell? ⟨b, o + n * 4 + 3, none⟩ = some vk ∧ Evs w ve evs ∧ Secs w vk k := by
  rcases h with ⟨rfl, _⟩ | ⟨b, o, c', e, h⟩
  · rw [For.drop_nil] at hd; cases hd
  · simp only [Value.slice.injEq] at e
    have h2 := Rows.drop n h
    rw [hd] at h2
    obtain ⟨⟨ve, vk, g1, g2, g3, g4, g5, g6⟩, _⟩ := h2
    exact ⟨b, o, ve, vk, e.1, g1, g2, g3, g4, g5, g6⟩

end Go.Proofs.Ythmcicmebaibgaa.TRead
