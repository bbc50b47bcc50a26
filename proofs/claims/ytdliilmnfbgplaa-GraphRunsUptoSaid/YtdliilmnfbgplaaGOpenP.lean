/- The arguments, opened: pieces. -/
import Derived.Test.YtdliilmnfbgplaaGOpen
namespace Go.Proofs.Ytdliilmnfbgplaa.GOpenP
open Go Go.RowKit Go.ChangeShapes Go.WideShapes Go.Deep Go.Proofs.Ytdliilmnfbgplaa.GRd Go.Proofs.Ytdliilmnfbgplaa.GCells Go.Proofs.Ytdliilmnfbgplaa.GStep Go.Proofs.Ytdliilmnfbgplaa.GMod Go.Proofs.Ytdliilmnfbgplaa.GMem Go.Proofs.Ytdliilmnfbgplaa.GPMem Go.Proofs.Ytdliilmnfbgplaa.GSub Go.Proofs.Ytdliilmnfbgplaa.GMade Go.Proofs.Ytdliilmnfbgplaa.GSoundS Go.Proofs.Ytdliilmnfbgplaa.Opn Go.Proofs.Ytdliilmnfbgplaa.GOpen Go.Proofs.Ytdliilmnfbgplaa.Hp Go.Proofs.Ytdliilmnfbgplaa.Rd Go.Proofs.Ytdliilmnfbgplaa.Fl
set_option linter.unusedVariables false
set_option linter.unusedSimpArgs false

section
variable {H : Type} {enc : TypeId × Value → H} {w : World} {base : Nat} {spare : Nat → Bool} {held : Bool}

set_option maxRecDepth 100000 in
theorem piece_parts {fuel : Nat} {cs : List Value} {x : DataW H × List MemPlace} (h : DataW.trod enc Try.prog w base spare held fuel 34 cs = some x) :
    ∃ y0 y1 y2 n, x = (.agg [y0.1, y1.1, y2.1], y0.2 ++ (y1.2 ++ y2.2)) ∧ cs.length = Try.prog.cellsOf 34 ∧ DataW.trod enc Try.prog w base spare held n 32 ((cs.drop 0).take (Try.prog.cellsOf 32)) = some y0 ∧
      DataW.trod enc Try.prog w base spare held n 3 ((cs.drop 1).take (Try.prog.cellsOf 3)) = some y1 ∧ DataW.trod enc Try.prog w base spare held n 4 ((cs.drop 2).take (Try.prog.cellsOf 4)) = some y2 :=
  trod_struct3 Try.underlying34 h

set_option maxRecDepth 100000 in
/-- A piece's cells. -/
theorem open_piece {n : Nat} {cs : List Value} {d : DataW H} {p : List MemPlace} (h : DataW.trod enc Try.prog w base spare held n 34 cs = some (d, p)) (hl : cs.length = 3) :
    ∃ (x : Pc) (f : Value), cs = pcC (x, f) ∧ InsR w (Bl w) f x.ins ∧ x.ins.length ≤ Rows.uptoBulk d := by
  obtain ⟨y0, y1, y2, n, hx, _, h0, h1, h2⟩ := piece_parts h
  simp only [Prod.mk.injEq] at hx
  obtain ⟨rfl, _⟩ := hx
  match cs, hl, h0, h1, h2 with
  | [u0, u1, u2], _, h0, h1, h2 =>
    simp only [cells3, cells4, cells32] at h0 h1 h2
    obtain ⟨t, e1, _⟩ := DataW.trod_int Try.underlying3 h1
    obtain ⟨b, e2, _⟩ := DataW.trod_bool Try.underlying4 h2
    simp at e1 e2 h0
    subst e1 e2
    have hv0 := slice_of_trod Try.underlying32 (d := y0.1) (p := y0.2) h0
    obtain ⟨ao, c, ls, rfl, hll, _, hin, _⟩ := rows_of_trod hv0 (trod_cell (d := y0.1) (p := y0.2) (by obtain ⟨a, l, c, rfl⟩ := hv0; rfl) h0)
    have b1 := par_lt (l := [y0.1, y1.1, y2.1]) (x := y0.1) (by simp)
    have e3 := Bulk.els_length y0.1
    exact ⟨⟨ls, t, b⟩, _, rfl, hin, by dsimp only; omega⟩

set_option maxRecDepth 100000 in
/-- Pieces. -/
theorem pcs_of_trod {v : Value} {d : DataW H} {p : List MemPlace} (hv : ∃ a len cap, v = .slice a len cap) (h : DataW.Trod enc Try.prog w base spare held 26 v d p) :
    ∃ (ao : Option Addr) (c : Nat) (xs : List Pc), v = .slice ao xs.length c ∧ xs.length = (els d).length ∧ PcsR w (Bl w) (.slice ao xs.length c) xs ∧ ∀ x ∈ xs, x.ins.length ≤ Rows.uptoBulk d := by
  have key := slc_of_trod (R := fun w cs (x : DataW H) => Rows.uptoBulk x ≤ Rows.uptoBulk d → ∃ (y : Pc) (f : Value), cs = pcC (y, f) ∧ InsR w (Bl w) f y.ins ∧ y.ins.length ≤ Rows.uptoBulk d) id (by omega) Try.underlying26 cells34 hv h (fun n cs d' p h hl hb => by
    obtain ⟨y, f, h1, h2, h3⟩ := open_piece h hl
    have hb : Rows.uptoBulk d' ≤ Rows.uptoBulk d := hb
    exact ⟨y, f, h1, h2, by omega⟩)
  obtain ⟨h1, a, len, cap, rfl, h2, h3, _⟩ := key
  obtain ⟨ys, hy, hs⟩ := slc_choose (R' := fun w' cs (q : {q : Pc × Value // InsR w (Bl w) q.2 q.1.ins ∧ q.1.ins.length ≤ Rows.uptoBulk d}) => cs = pcC q.1) h1 (fun cs x hx _ h => by
    rw [List.map_id] at hx
    obtain ⟨y, f, h4, h5⟩ := h (Nat.le_of_lt (els_lt hx))
    exact ⟨⟨(y, f), h5⟩, h4⟩)
  rw [List.map_id] at hy
  have hs2 : SlA 3 pcC w (Bl w) (.slice a len cap) (ys.map Subtype.val) := by
    have h9 := sla_of_slc (C := fun q : {q : Pc × Value // InsR w (Bl w) q.2 q.1.ins ∧ q.1.ins.length ≤ Rows.uptoBulk d} => pcC q.1) (fun _ => rfl) (by decide) hs
    rcases h9 with ⟨b, off, cap', hb, he, hr⟩ | ⟨ao, cap', he, hnil⟩
    · refine .inl ⟨b, off, cap', hb, by rw [List.length_map]; exact he, fun i x hx => ?_⟩
      rw [List.getElem?_map] at hx
      cases hq : ys[i]? with
      | none => rw [hq] at hx; cases hx
      | some q =>
        rw [hq] at hx
        simp at hx
        subst hx
        exact hr i q hq
    · exact .inr ⟨ao, cap', he, by rw [hnil]; rfl⟩
  refine ⟨a, cap, (ys.map Subtype.val).map Prod.fst, by rw [List.length_map, List.length_map, hy, h2], by rw [List.length_map, List.length_map, hy], ⟨ys.map Subtype.val, rfl, by rw [List.length_map, List.length_map, hy, ← h2]; exact hs2, fun q hq => ?_⟩, fun x hx => ?_⟩
  · rw [List.mem_map] at hq
    obtain ⟨q, _, rfl⟩ := hq
    exact q.2.1
  · rw [List.mem_map] at hx
    obtain ⟨q, hq, rfl⟩ := hx
    rw [List.mem_map] at hq
    obtain ⟨q, _, rfl⟩ := hq
    exact q.2.2
end
end Go.Proofs.Ytdliilmnfbgplaa.GOpenP
