/- The arguments, opened: sections, turns. -/
import Derived.Test.YthmcicmebaibgaaTOpen0
import Derived.Test.YthmcicmebaibgaaTPm
import Derived.Test.YthmcicmebaibgaaBulk
import Derived.Lib.SmallJoins
namespace Go.Proofs.Ythmcicmebaibgaa.TOpn
open Go Go.RowKit Go.ChangeShapes Go.WideShapes Go.Deep Go.Proofs.Ythmcicmebaibgaa.WMod Go.Proofs.Ythmcicmebaibgaa.TMod Go.Proofs.Ythmcicmebaibgaa.TRead Go.Proofs.Ythmcicmebaibgaa.TPm Go.Proofs.Ythmcicmebaibgaa.Opn Go.Proofs.Ythmcicmebaibgaa.Hp Go.Proofs.Ythmcicmebaibgaa.Rd Go.Proofs.Ythmcicmebaibgaa.TWWrong Go.Proofs.Ythmcicmebaibgaa.TOpen0
set_option linter.unusedVariables false

theorem cells44 : Try.prog.cellsOf 44 = 4 := by kernel_rfl
theorem cells22 : Try.prog.cellsOf 22 = 1 := by kernel_rfl
theorem cells32 : Try.prog.cellsOf 32 = 1 := by kernel_rfl
theorem cells31 : Try.prog.cellsOf 31 = 2 := by kernel_rfl

theorem mem_bulk {H : Type} : ∀ {l : List (DataW H)} {x : DataW H}, x ∈ l → Rows.uptoBulk x ≤ Rows.uptoBulkAll l
  | _ :: _, _, .head _ => by simp only [Rows.uptoBulkAll]; omega
  | d :: _, _, .tail _ h => by have := mem_bulk h; simp only [Rows.uptoBulkAll]; omega

theorem els_lt {H : Type} {d x : DataW H} (h : x ∈ els d) : Rows.uptoBulk x < Rows.uptoBulk d := by
  cases d with
  | slice e s =>
    have := mem_bulk (l := e) h
    simp only [Rows.uptoBulk]
    omega
  | _ => simp [els] at h

section
variable {H : Type} {enc : TypeId × Value → H} {w : World} {base : Nat} {spare : Nat → Bool} {held : Bool}

/-- A section's four cells. -/
theorem open_section {n : Nat} {cs : List Value} {d : DataW H} {p : List MemPlace} (h : DataW.trod enc Try.prog w base spare held n 44 cs = some (d, p)) (hl : cs.length = 4) :
    ∃ (t l : Int) (ve vk : Value) (m : Nat) (de dk : DataW H) (pe pk : List MemPlace), cs = [.int .i64 t, .int .i64 l, ve, vk] ∧ DataW.trod enc Try.prog w base spare held m 32 [ve] = some (de, pe) ∧ DataW.trod enc Try.prog w base spare held m 22 [vk] = some (dk, pk) ∧ Rows.uptoBulk dk < Rows.uptoBulk d := by
  obtain ⟨y0, y1, y2, y3, m, hx, _, h0, h1, h2, h3⟩ := Go.Joins.trod_struct4 Try.underlying44 h
  simp only [Prod.mk.injEq] at hx
  obtain ⟨rfl, _⟩ := hx
  match cs, hl, h0, h1, h2, h3 with
  | [u0, u1, u2, u3], _, h0, h1, h2, h3 =>
    simp only [cells3, cells22, cells32] at h0 h1 h2 h3
    obtain ⟨t, e0, _⟩ := DataW.trod_int Try.underlying3 h0
    obtain ⟨l, e1, _⟩ := DataW.trod_int Try.underlying3 h1
    simp at e0 e1 h2 h3
    subst e0 e1
    refine ⟨t, l, u2, u3, m, y2.1, y3.1, y2.2, y3.2, rfl, h2, h3, ?_⟩
    simp only [Rows.uptoBulk, Rows.uptoBulkAll]
    omega

theorem secs_trod : ∀ (N : Nat) (n : Nat) (v : Value) (d : DataW H) (p : List MemPlace), Rows.uptoBulk d < N → DataW.trod enc Try.prog w base spare held n 22 [v] = some (d, p) → ∃ f : For, f.len = (els d).length ∧ Secs w v f := by
  intro N
  induction N with
  | zero => intro n v d p h; omega
  | succ N IH =>
    intro n v d p hN h
    have hv := slice_of_trod Try.underlying22 h
    have hT : DataW.Trod enc Try.prog w base spare held 22 v d p := trod_cell (by obtain ⟨a, l, c, rfl⟩ := hv; rfl) h
    obtain ⟨h1, a, len, cap, rfl, h2, h3, _⟩ := slc_of_trod (R := fun w cs (x : DataW H) => ∃ n p, DataW.trod enc Try.prog w base spare held n 44 cs = some (x, p)) id (by omega) Try.underlying22 cells44 hv hT (fun n cs d p h hl => ⟨n, p, h⟩)
    rw [List.map_id] at h1
    -- the rows, one behind the other
    have rows : ∀ (b : Nat) (xs : List (DataW H)) (off : Nat), (∀ x ∈ xs, Rows.uptoBulk x < Rows.uptoBulk d) →
        (∀ i x, xs[i]? = some x → ∃ cs : List Value, cs.length = 4 ∧ (∀ j u, cs[j]? = some u → w.cell? ⟨b, off + (i * 4 + j), none⟩ = some u) ∧ ∃ n p, DataW.trod enc Try.prog w base spare held n 44 cs = some (x, p)) →
        ∃ f : For, f.len = xs.length ∧ TRead.Rows w f b off := by
      intro b xs
      induction xs with
      | nil => intro off _ _; exact ⟨.nil, rfl, trivial⟩
      | cons x xs ih =>
        intro off hlt hel
        obtain ⟨cs, hl, hc, m, q, hx⟩ := hel 0 x rfl
        obtain ⟨t, l, ve, vk, m2, de, dk, pe, pk, rfl, he, hk, hb⟩ := open_section hx hl
        have hxl := hlt x (.head _)
        obtain ⟨k, hkl, hks⟩ := IH m2 vk dk pk (by omega) hk
        have hve := slice_of_trod Try.underlying32 he
        obtain ⟨ao, ec, es, hes, _, hE⟩ := evs_of_trod hve (trod_cell (by obtain ⟨a, l, c, rfl⟩ := hve; rfl) he)
        obtain ⟨r, hrl, hr⟩ := ih (off + 4) (fun y hy => hlt y (.tail _ hy)) (fun i y hy => by
          obtain ⟨cs, h1, h2, h3⟩ := hel (i + 1) y (by simpa using hy)
          refine ⟨cs, h1, fun j u hu => ?_, h3⟩
          have := h2 j u hu
          rw [show off + 4 + (i * 4 + j) = off + ((i + 1) * 4 + j) from by omega]
          exact this)
        have g0 := hc 0 _ rfl
        have g1 := hc 1 _ rfl
        have g2 := hc 2 _ rfl
        have g3 := hc 3 _ rfl
        simp only [Nat.zero_mul, Nat.zero_add, Nat.add_zero] at g0 g1 g2 g3
        refine ⟨.cons t l es k r, by simp only [For.len, List.length_cons]; omega, ⟨ve, vk, g0, g1, g2, g3, by rw [hes]; exact hE, ?_⟩, hr⟩
        rcases hks with h | ⟨kb, ko, kc, h, hh⟩
        · exact .inl h
        · exact .inr ⟨kb, ko, kc, h, hh⟩
    rcases h1 with ⟨b, off, cap', hv', hel⟩ | ⟨ao, cap', hv', hnil⟩
    · obtain ⟨f, hf, hr⟩ := rows b (els d) off (fun x hx => els_lt hx) hel
      exact ⟨f, hf, .inr ⟨b, off, cap', by rw [hf]; exact hv', hr⟩⟩
    · exact ⟨.nil, by rw [hnil]; rfl, .inl ⟨rfl, ao, cap', hv'⟩⟩

theorem secs_of_trod {v : Value} {d : DataW H} {p : List MemPlace} (hv : ∃ a len cap, v = .slice a len cap) (h : DataW.Trod enc Try.prog w base spare held 22 v d p) : ∃ f : For, f.len = (els d).length ∧ Secs w v f := by
  obtain ⟨n, hn⟩ := h
  obtain ⟨a, l, c, rfl⟩ := hv
  exact secs_trod (Rows.uptoBulk d + 1) n _ d p (by omega) hn

/-- Turns. -/
theorem open_turn {n : Nat} {cs : List Value} {d : DataW H} {p : List MemPlace} (h : DataW.trod enc Try.prog w base spare held n 31 cs = some (d, p)) (hl : cs.length = 2) : ∃ t : Tn, TnR w cs t := by
  obtain ⟨y0, y1, m, hx, _, h0, h1⟩ := trod_struct2 Try.underlying31 h
  match cs, hl, h0, h1 with
  | [u0, u1], _, h0, h1 =>
    simp only [cells3] at h0 h1
    obtain ⟨t, e0, _⟩ := DataW.trod_int Try.underlying3 h0
    obtain ⟨l, e1, _⟩ := DataW.trod_int Try.underlying3 h1
    simp at e0 e1
    subst e0 e1
    exact ⟨⟨t, l⟩, rfl⟩
theorem tns_of_trod {v : Value} {d : DataW H} {p : List MemPlace} (hv : ∃ a len cap, v = .slice a len cap) (h : DataW.Trod enc Try.prog w base spare held 23 v d p) :
    ∃ (ao : Option Addr) (cap : Nat) (ts : List Tn), v = .slice ao ts.length cap ∧ ts.length = (els d).length ∧ Tns w (.slice ao ts.length cap) ts := by
  obtain ⟨h1, a, len, cap, rfl, h2, h3, _⟩ := slc_of_trod (R := fun w cs (x : DataW H) => ∃ t : Tn, TnR w cs t) id (by omega) Try.underlying23 cells31 hv h (fun n cs d p h hl => open_turn h hl)
  obtain ⟨ys, hy, hs⟩ := slc_choose h1 (fun cs x _ h => h)
  rw [List.map_id] at hy
  exact ⟨a, cap, ys, by rw [hy, h2], hy, by rw [hy, ← h2]; exact hs⟩
end
end Go.Proofs.Ythmcicmebaibgaa.TOpn
