/- A section as an argument, opened. -/
import Derived.Test.YthmcicmebaibgaaTOpn
namespace Go.Proofs.Ythmcicmebaibgaa.TOpnS
open Go Go.RowKit Go.ChangeShapes Go.WideShapes Go.Deep Go.Proofs.Ythmcicmebaibgaa.WMod Go.Proofs.Ythmcicmebaibgaa.TMod Go.Proofs.Ythmcicmebaibgaa.TRead Go.Proofs.Ythmcicmebaibgaa.TPm Go.Proofs.Ythmcicmebaibgaa.Opn Go.Proofs.Ythmcicmebaibgaa.Hp Go.Proofs.Ythmcicmebaibgaa.Rd Go.Proofs.Ythmcicmebaibgaa.TWWrong Go.Proofs.Ythmcicmebaibgaa.TOpen0 Go.Proofs.Ythmcicmebaibgaa.TOpn
set_option linter.unusedVariables false
section
variable {H : Type} {enc : TypeId × Value → H} {w : World} {base b0 : Nat} {spare : Nat → Bool} {held : Bool} {r : Reach}

theorem section_of_trod {v : Value} {d : DataW H} {p : List MemPlace} (hv : Value.okWide Try.prog w r b0 44 v) (h : DataW.Trod enc Try.prog w base spare held 44 v d p) :
    ∃ (t l : Int) (ve vk : Value) (evs : List Ev) (k : For), v = .agg #[.int .i64 t, .int .i64 l, ve, vk] ∧ Evs w ve evs ∧ Secs w vk k := by
  obtain ⟨cs, rfl, hsz⟩ := okWide_struct Try.underlying44 hv
  rw [cells44] at hsz
  obtain ⟨fuel, hf⟩ := h
  obtain ⟨c⟩ := cs
  have hl : c.length = 4 := by simpa using hsz
  obtain ⟨t, l, ve, vk, m, de, dk, pe, pk, rfl, he, hk, _⟩ := open_section (cs := c) hf hl
  have hve := slice_of_trod Try.underlying32 he
  obtain ⟨ao, ec, es, hes, _, hE⟩ := evs_of_trod hve (trod_cell (by obtain ⟨a, l, c, rfl⟩ := hve; rfl) he)
  obtain ⟨k, _, hks⟩ := secs_trod (Rows.uptoBulk dk + 1) m vk dk pk (by omega) hk
  exact ⟨t, l, ve, vk, es, k, rfl, by rw [hes]; exact hE, hks⟩
end
end Go.Proofs.Ythmcicmebaibgaa.TOpnS
