/- The arguments, opened: graphs, rows of samples, pieces. -/
import Derived.Test.YtdliilmnfbgplaaGM8
import Derived.Test.YtdliilmnfbgplaaGM9
import Derived.OpenShut
import Derived.Deep.Strs
namespace Go.Proofs.Ytdliilmnfbgplaa.GOpen
open Go Go.RowKit Go.ChangeShapes Go.WideShapes Go.Deep Go.Proofs.Ytdliilmnfbgplaa.GRd Go.Proofs.Ytdliilmnfbgplaa.GCells Go.Proofs.Ytdliilmnfbgplaa.GStep Go.Proofs.Ytdliilmnfbgplaa.GMod Go.Proofs.Ytdliilmnfbgplaa.GMem Go.Proofs.Ytdliilmnfbgplaa.GPMem Go.Proofs.Ytdliilmnfbgplaa.GSub Go.Proofs.Ytdliilmnfbgplaa.GMade Go.Proofs.Ytdliilmnfbgplaa.GSoundS Go.Proofs.Ytdliilmnfbgplaa.Opn Go.Proofs.Ytdliilmnfbgplaa.Hp Go.Proofs.Ytdliilmnfbgplaa.Rd Go.Proofs.Ytdliilmnfbgplaa.Fl
set_option linter.unusedVariables false
set_option linter.unusedSimpArgs false

theorem own : ownKnob Try.prog.godebug = none := by kernel_rfl
theorem laidOut : laidOutB Try.prog = true := by kernel_rfl
theorem cells3 : Try.prog.cellsOf 3 = 1 := by kernel_rfl
theorem cells4 : Try.prog.cellsOf 4 = 1 := by kernel_rfl
theorem cells22 : Try.prog.cellsOf 22 = 1 := by kernel_rfl
theorem cells23 : Try.prog.cellsOf 23 = 1 := by kernel_rfl
theorem cells25 : Try.prog.cellsOf 25 = 3 := by kernel_rfl
theorem cells32 : Try.prog.cellsOf 32 = 1 := by kernel_rfl
theorem cells34 : Try.prog.cellsOf 34 = 3 := by kernel_rfl
theorem cells38 : Try.prog.cellsOf 38 = 1 := by kernel_rfl
theorem cells46 : Try.prog.cellsOf 46 = 1 := by kernel_rfl
theorem cells49 : Try.prog.cellsOf 49 = 1 := by kernel_rfl
theorem cells53 : Try.prog.cellsOf 53 = 16 := by kernel_rfl
theorem within53 : within Try.prog 3 53 = true := by kernel_rfl
theorem leaves53 : leaves Try.prog 3 53 0 = [(0, 3), (1, 23), (2, 3), (3, 46), (4, 46), (5, 46), (6, 46), (7, 46), (8, 46), (9, 3), (10, 49), (11, 46), (12, 3), (13, 3), (14, 3), (15, 3)] := by kernel_rfl

/-- What each element is, chosen. -/
theorem slc_choose {α β : Type} {s : Nat} {R : World → List Value → α → Prop} {R' : World → List Value → β → Prop} {w : World} {v : Value} {xs : List α} (h : Slc s R w v xs) (hc : ∀ cs x, x ∈ xs → cs.length = s → R w cs x → ∃ y, R' w cs y) :
    ∃ ys : List β, ys.length = xs.length ∧ Slc s R' w v ys := by
  rcases h with ⟨b, off, cap, rfl, h⟩ | ⟨ao, cap, rfl, rfl⟩
  · have key : ∀ i : Fin xs.length, ∃ y, ∃ cs : List Value, cs.length = s ∧ (∀ j u, cs[j]? = some u → w.cell? ⟨b, off + (i.val * s + j), none⟩ = some u) ∧ R' w cs y := by
      intro i
      obtain ⟨cs, h1, h2, h3⟩ := h i.val xs[i] (List.getElem?_eq_getElem i.isLt)
      obtain ⟨y, hy⟩ := hc cs _ (List.getElem_mem _) h1 h3
      exact ⟨y, cs, h1, h2, hy⟩
    have key2 : ∀ i : Fin xs.length, ∃ cs : List Value, cs.length = s ∧ (∀ j u, cs[j]? = some u → w.cell? ⟨b, off + (i.val * s + j), none⟩ = some u) ∧ R' w cs (Classical.choose (key i)) := fun i => Classical.choose_spec (key i)
    refine ⟨List.ofFn fun i => Classical.choose (key i), by simp, .inl ⟨b, off, cap, by simp, fun i y hy => ?_⟩⟩
    rw [List.getElem?_ofFn] at hy
    split at hy
    · rename_i hi
      simp only [Option.some.injEq] at hy
      subst hy
      exact key2 ⟨i, hi⟩
    · cases hy
  · exact ⟨[], rfl, .inr ⟨ao, cap, rfl, rfl⟩⟩

theorem lt_of_cell {w : World} {p : Addr} {v : Value} (h : w.cell? p = some v) : p.block < w.heap.size := by
  rcases Nat.lt_or_ge p.block w.heap.size with h1 | h1
  · exact h1
  · unfold World.cell? at h
    rw [Array.getElem?_eq_none h1] at h
    cases h

def Bl (w : World) : Nat → Prop := fun b => b < w.heap.size
/-- A slice's cells lie in blocks that there are. -/
theorem sla_of_slc {α : Type} {s : Nat} {C : α → List Value} (hC : ∀ x, (C x).length = s) (hs : 0 < s) {w : World} {v : Value} {xs : List α} (h : Slc s (fun _ cs x => cs = C x) w v xs) : SlA s C w (Bl w) v xs := by
  rcases h with ⟨b, off, cap, rfl, h⟩ | h
  · cases xs with
    | nil => exact .inr ⟨_, _, rfl, rfl⟩
    | cons x0 xs =>
      have hb : b < w.heap.size := by
        obtain ⟨cs, h1, h2, rfl⟩ := h 0 x0 rfl
        obtain ⟨u, hu⟩ : ∃ u, (C x0)[0]? = some u := ⟨(C x0)[0]'(by rw [hC]; exact hs), List.getElem?_eq_getElem _⟩
        exact lt_of_cell (h2 0 u hu)
      refine .inl ⟨b, off, cap, hb, rfl, fun i x hx j u hu => ?_⟩
      obtain ⟨cs, h1, h2, rfl⟩ := h i x hx
      have := h2 j u hu
      rw [show off + i * s + j = off + (i * s + j) from by omega]
      exact this
  · exact .inr h

section
variable {H : Type} {enc : TypeId × Value → H} {w : World} {base : Nat} {spare : Nat → Bool} {held : Bool}

theorem leaf_int {cs : List Value} {o n : Nat} {y : DataW H × List MemPlace} (h : DataW.trod enc Try.prog w base spare held n 3 ((cs.drop o).take 1) = some y) : ∃ x : Int, cs[o]? = some (.int .i64 x) := by
  obtain ⟨x, hb, _, hw⟩ := DataW.trod_int Try.underlying3 h
  refine ⟨x, ?_⟩
  have := congrArg (·[0]?) hb
  simpa [List.getElem?_take, List.getElem?_drop] using this
theorem leaf_u32 {cs : List Value} {o n : Nat} {y : DataW H × List MemPlace} (h : DataW.trod enc Try.prog w base spare held n 49 ((cs.drop o).take 1) = some y) : ∃ x : Nat, cs[o]? = some (.int .u32 (x : Int)) ∧ x < 4294967296 := by
  obtain ⟨x, hb, _, hw⟩ := DataW.trod_int Try.underlying49 h
  simp only [Lit.wf, show IntKind.u32.min = 0 from rfl, show IntKind.u32.max = 4294967295 from rfl, Bool.and_eq_true, decide_eq_true_eq] at hw
  obtain ⟨k, rfl⟩ : ∃ k : Nat, x = (k : Int) := Int.eq_ofNat_of_zero_le hw.1
  refine ⟨k, ?_, by omega⟩
  have := congrArg (·[0]?) hb
  simpa [List.getElem?_take, List.getElem?_drop] using this
theorem leaf_float {cs : List Value} {o n : Nat} {y : DataW H × List MemPlace} (h : DataW.trod enc Try.prog w base spare held n 46 ((cs.drop o).take 1) = some y) : ∃ b, cs[o]? = some (.float .f64 b) := by
  obtain ⟨b, hb, _⟩ := trod_float Try.underlying46 h
  refine ⟨b, ?_⟩
  have := congrArg (·[0]?) hb
  simpa [List.getElem?_take, List.getElem?_drop] using this

theorem mem_bulk : ∀ {l : List (DataW H)} {x : DataW H}, x ∈ l → Rows.uptoBulk x ≤ Rows.uptoBulkAll l
  | _ :: _, _, .head _ => by simp only [Rows.uptoBulkAll]; omega
  | d :: _, _, .tail _ h => by have := mem_bulk h; simp only [Rows.uptoBulkAll]; omega
theorem els_lt {d x : DataW H} (h : x ∈ els d) : Rows.uptoBulk x < Rows.uptoBulk d := by
  cases d with
  | slice e s =>
    have := mem_bulk (l := e) h
    simp only [Rows.uptoBulk]
    omega
  | _ => simp [els] at h
theorem par_lt {l : List (DataW H)} {x : DataW H} (h : x ∈ l) : Rows.uptoBulk x < Rows.uptoBulk (.agg l) := by
  have := mem_bulk h
  simp only [Rows.uptoBulk]
  omega

/-- A slice of ints. -/
theorem ints_of_trod {v : Value} {d : DataW H} {p : List MemPlace} (hv : ∃ a len cap, v = .slice a len cap) (h : DataW.Trod enc Try.prog w base spare held 23 v d p) :
    ∃ (ao : Option Addr) (c : Nat) (xs : List Int), v = .slice ao xs.length c ∧ xs.length = (els d).length ∧ SlA 1 iC w (Bl w) (.slice ao xs.length c) xs ∧ ∀ n ∈ xs, -9223372036854775808 ≤ n ∧ n ≤ 9223372036854775807 := by
  obtain ⟨h1, a, len, cap, rfl, h2, h3, _⟩ := slc_of_trod (R := fun w cs (x : DataW H) => ∃ n : Int, cs = iC n ∧ -9223372036854775808 ≤ n ∧ n ≤ 9223372036854775807) id (by omega) Try.underlying23 cells3 hv h (fun n cs d p h hl => by
    obtain ⟨b, hu, hx, hw⟩ := DataW.trod_int Try.underlying3 h
    simp only [Lit.wf, show IntKind.i64.min = -9223372036854775808 from rfl, show IntKind.i64.max = 9223372036854775807 from rfl, Bool.and_eq_true, decide_eq_true_eq] at hw
    exact ⟨b, hu, hw⟩)
  obtain ⟨ys, hy, hs⟩ := slc_choose (R' := fun _ cs (x : {n : Int // -9223372036854775808 ≤ n ∧ n ≤ 9223372036854775807}) => cs = iC x.1) h1 (fun cs x _ _ h => by
    obtain ⟨n, h4, h5⟩ := h
    exact ⟨⟨n, h5⟩, h4⟩)
  rw [List.map_id] at hy
  have hs2 : SlA 1 iC w (Bl w) (.slice a len cap) (ys.map Subtype.val) := by
    have h9 := sla_of_slc (C := fun x : {n : Int // -9223372036854775808 ≤ n ∧ n ≤ 9223372036854775807} => iC x.1) (fun _ => rfl) (by decide) hs
    rcases h9 with ⟨b, off, cap', hb, he, hr⟩ | ⟨ao, cap', he, hnil⟩
    · refine .inl ⟨b, off, cap', hb, by rw [List.length_map]; exact he, fun i x hx => ?_⟩
      rw [List.getElem?_map] at hx
      cases hq : ys[i]? with
      | none => rw [hq] at hx; cases hx
      | some q =>
        rw [hq] at hx
        simp at hx
        subst hx
        exact hr i q hq
    · exact .inr ⟨ao, cap', he, by rw [hnil]; rfl⟩
  refine ⟨a, cap, ys.map Subtype.val, by rw [List.length_map, hy, h2], by rw [List.length_map, hy], by rw [List.length_map, hy, ← h2]; exact hs2, fun n hn => ?_⟩
  rw [List.mem_map] at hn
  obtain ⟨q, _, rfl⟩ := hn
  exact q.2

set_option maxRecDepth 100000 in
/-- A node's cells. -/
theorem open_node {n : Nat} {cs : List Value} {d : DataW H} {p : List MemPlace} (h : DataW.trod enc Try.prog w base spare held n 53 cs = some (d, p)) (hl : cs.length = 16) :
    ∃ (x : Nd) (f : Value), cs = ndC (x, f) ∧ SlA 1 iC w (Bl w) f x.from_ ∧ x.from_.length ≤ Rows.uptoBulk d ∧ x.pt.step < 4294967296 := by
  have hbig : (cs.drop 0).take (Try.prog.cellsOf 53) = cs := by rw [cells53, List.drop_zero, List.take_of_length_le (by omega)]
  have hq := leaves_of_trod (enc := enc) (P := Try.prog) (w := w) (base := base) (spare := spare) (held := held) cs 3 53 0 n (d, p) within53 (by rw [hbig]; exact h)
  rw [leaves53] at hq
  have gi : ∀ o, (o, 3) ∈ [(0, 3), (1, 23), (2, 3), (3, 46), (4, 46), (5, 46), (6, 46), (7, 46), (8, 46), (9, 3), (10, 49), (11, 46), (12, 3), (13, 3), (14, 3), (15, 3)] → ∃ x : Int, cs[o]? = some (.int .i64 x) := fun o ho => by
    obtain ⟨n, y, h⟩ := hq (o, 3) ho
    rw [cells3] at h
    exact leaf_int h
  have gf : ∀ o, (o, 46) ∈ [(0, 3), (1, 23), (2, 3), (3, 46), (4, 46), (5, 46), (6, 46), (7, 46), (8, 46), (9, 3), (10, 49), (11, 46), (12, 3), (13, 3), (14, 3), (15, 3)] → ∃ x : Nat, cs[o]? = some (.float .f64 x) := fun o ho => by
    obtain ⟨n, y, h⟩ := hq (o, 46) ho
    rw [cells46] at h
    exact leaf_float h
  obtain ⟨x0, h0⟩ := gi 0 (by simp)
  obtain ⟨x2, h2⟩ := gi 2 (by simp)
  obtain ⟨x3, h3⟩ := gf 3 (by simp)
  obtain ⟨x4, h4⟩ := gf 4 (by simp)
  obtain ⟨x5, h5⟩ := gf 5 (by simp)
  obtain ⟨x6, h6⟩ := gf 6 (by simp)
  obtain ⟨x7, h7⟩ := gf 7 (by simp)
  obtain ⟨x8, h8⟩ := gf 8 (by simp)
  obtain ⟨x9, h9⟩ := gi 9 (by simp)
  obtain ⟨x11, h11⟩ := gf 11 (by simp)
  obtain ⟨x12, h12⟩ := gi 12 (by simp)
  obtain ⟨x13, h13⟩ := gi 13 (by simp)
  obtain ⟨x14, h14⟩ := gi 14 (by simp)
  obtain ⟨x15, h15⟩ := gi 15 (by simp)
  obtain ⟨x10, h10, hst⟩ : ∃ x : Nat, cs[10]? = some (.int .u32 (x : Int)) ∧ x < 4294967296 := by
    obtain ⟨n, y, h⟩ := hq (10, 49) (by simp)
    rw [cells49] at h
    exact leaf_u32 h
  obtain ⟨xs, m, _, hd, _, hlen, hg⟩ := DataW.trod_struct Try.underlying53 h
  simp only [Prod.mk.injEq] at hd
  obtain ⟨hd, _⟩ := hd
  have h1' := hg 1 _ rfl
  have hx1 : 1 < xs.length := by rw [hlen]; decide
  rw [List.getElem?_eq_getElem hx1] at h1'
  obtain ⟨⟨d1, p1⟩, hd1⟩ : ∃ q, xs[1] = q := ⟨_, rfl⟩
  rw [hd1] at h1'
  replace h1' : DataW.trod enc Try.prog w base spare held m 23 ((cs.drop 1).take (Try.prog.cellsOf 23)) = some (d1, p1) := h1'
  rw [cells23] at h1'
  obtain ⟨f, hf⟩ : ∃ f, cs[1]? = some f := ⟨cs[1]'(by omega), List.getElem?_eq_getElem _⟩
  have e1 : (cs.drop 1).take 1 = [f] := by
    rw [List.drop_eq_getElem_cons (by omega)]
    rw [List.getElem?_eq_getElem (by omega)] at hf
    injection hf with hf
    rw [hf]
    rfl
  rw [e1] at h1'
  have hfv := slice_of_trod Try.underlying23 h1'
  obtain ⟨ao, c, fs, rfl, hfl, hfs, _⟩ := ints_of_trod hfv (trod_cell (by obtain ⟨a, l, c, rfl⟩ := hfv; rfl) h1')
  refine ⟨⟨x0, fs, x2, x3, ⟨x4, x5, x6, x7, x8⟩, ⟨x9, x10, x11, x12, x13, x14, x15⟩⟩, .slice ao fs.length c, ?_, hfs, ?_, hst⟩
  · apply List.ext_getElem?
    intro i
    rcases Nat.lt_or_ge i 16 with hi | hi
    · have : i = 0 ∨ i = 1 ∨ i = 2 ∨ i = 3 ∨ i = 4 ∨ i = 5 ∨ i = 6 ∨ i = 7 ∨ i = 8 ∨ i = 9 ∨ i = 10 ∨ i = 11 ∨ i = 12 ∨ i = 13 ∨ i = 14 ∨ i = 15 := by omega
      rcases this with rfl | rfl | rfl | rfl | rfl | rfl | rfl | rfl | rfl | rfl | rfl | rfl | rfl | rfl | rfl | rfl <;> (first | exact h0 | exact hf | exact h2 | exact h3 | exact h4 | exact h5 | exact h6 | exact h7 | exact h8 | exact h9 | exact h10 | exact h11 | exact h12 | exact h13 | exact h14 | exact h15)
    · rw [List.getElem?_eq_none (by omega), List.getElem?_eq_none (by rw [ndC_len]; exact hi)]
  · dsimp only
    rw [hfl]
    have h1 := Bulk.els_length d1
    have h2 : d1 ∈ xs.map (·.1) := by
      rw [List.mem_map]
      exact ⟨(d1, p1), by rw [← hd1]; exact List.getElem_mem _, rfl⟩
    have h3 := par_lt h2
    rw [← hd] at h3
    omega

/-- Nodes. -/
theorem nodes_of_trod {v : Value} {d : DataW H} {p : List MemPlace} (hv : ∃ a len cap, v = .slice a len cap) (h : DataW.Trod enc Try.prog w base spare held 22 v d p) :
    ∃ (ao : Option Addr) (c : Nat) (xs : List Nd), v = .slice ao xs.length c ∧ xs.length = (els d).length ∧ NdsR w (Bl w) (.slice ao xs.length c) xs ∧ ∀ x ∈ xs, x.from_.length ≤ Rows.uptoBulk d ∧ x.pt.step < 4294967296 := by
  have key := slc_of_trod (R := fun w cs (x : DataW H) => Rows.uptoBulk x ≤ Rows.uptoBulk d → ∃ (y : Nd) (f : Value), cs = ndC (y, f) ∧ SlA 1 iC w (Bl w) f y.from_ ∧ y.from_.length ≤ Rows.uptoBulk d ∧ y.pt.step < 4294967296) id (by omega) Try.underlying22 cells53 hv h (fun n cs d' p h hl hb => by
    obtain ⟨y, f, h1, h2, h3, h4⟩ := open_node h hl
    have hb : Rows.uptoBulk d' ≤ Rows.uptoBulk d := hb
    exact ⟨y, f, h1, h2, by omega, h4⟩)
  obtain ⟨h1, a, len, cap, rfl, h2, h3, _⟩ := key
  obtain ⟨ys, hy, hs⟩ := slc_choose (R' := fun w' cs (q : {q : Nd × Value // SlA 1 iC w (Bl w) q.2 q.1.from_ ∧ q.1.from_.length ≤ Rows.uptoBulk d ∧ q.1.pt.step < 4294967296}) => cs = ndC q.1) h1 (fun cs x hx _ h => by
    rw [List.map_id] at hx
    obtain ⟨y, f, h4, h5⟩ := h (Nat.le_of_lt (els_lt hx))
    exact ⟨⟨(y, f), h5⟩, h4⟩)
  rw [List.map_id] at hy
  have hs2 : SlA 16 ndC w (Bl w) (.slice a len cap) (ys.map Subtype.val) := by
    have h9 := sla_of_slc (C := fun q : {q : Nd × Value // SlA 1 iC w (Bl w) q.2 q.1.from_ ∧ q.1.from_.length ≤ Rows.uptoBulk d ∧ q.1.pt.step < 4294967296} => ndC q.1) (fun _ => rfl) (by decide) hs
    rcases h9 with ⟨b, off, cap', hb, he, hr⟩ | ⟨ao, cap', he, hnil⟩
    · refine .inl ⟨b, off, cap', hb, by rw [List.length_map]; exact he, fun i x hx => ?_⟩
      rw [List.getElem?_map] at hx
      cases hq : ys[i]? with
      | none => rw [hq] at hx; cases hx
      | some q =>
        rw [hq] at hx
        simp at hx
        subst hx
        exact hr i q hq
    · exact .inr ⟨ao, cap', he, by rw [hnil]; rfl⟩
  refine ⟨a, cap, (ys.map Subtype.val).map Prod.fst, by rw [List.length_map, List.length_map, hy, h2], by rw [List.length_map, List.length_map, hy], ⟨ys.map Subtype.val, rfl, by rw [List.length_map, List.length_map, hy, ← h2]; exact hs2, fun q hq => ?_⟩, fun x hx => ?_⟩
  · rw [List.mem_map] at hq
    obtain ⟨q, _, rfl⟩ := hq
    exact q.2.1
  · rw [List.mem_map] at hx
    obtain ⟨q, hq, rfl⟩ := hx
    rw [List.mem_map] at hq
    obtain ⟨q, _, rfl⟩ := hq
    exact q.2.2

set_option maxRecDepth 100000 in
theorem graph_parts {fuel : Nat} {cs : List Value} {x : DataW H × List MemPlace} (h : DataW.trod enc Try.prog w base spare held fuel 25 cs = some x) :
    ∃ y0 y1 y2 n, x = (.agg [y0.1, y1.1, y2.1], y0.2 ++ (y1.2 ++ y2.2)) ∧ cs.length = Try.prog.cellsOf 25 ∧ DataW.trod enc Try.prog w base spare held n 3 ((cs.drop 0).take (Try.prog.cellsOf 3)) = some y0 ∧
      DataW.trod enc Try.prog w base spare held n 22 ((cs.drop 1).take (Try.prog.cellsOf 22)) = some y1 ∧ DataW.trod enc Try.prog w base spare held n 23 ((cs.drop 2).take (Try.prog.cellsOf 23)) = some y2 :=
  trod_struct3 Try.underlying25 h

set_option maxRecDepth 100000 in
/-- A graph. -/
theorem graph_of_trod {b0 : Nat} {r : Reach} {v : Value} {d : DataW H} {p : List MemPlace} (hv : Value.okWide Try.prog w r b0 25 v) (h : DataW.Trod enc Try.prog w base spare held 25 v d p) :
    ∃ (g : Gd) (na oa : Option Addr) (nc oc : Nat), v = gdV g.ins (.slice na g.nodes.length nc) (.slice oa g.outs.length oc) ∧ NdsR w (Bl w) (.slice na g.nodes.length nc) g.nodes ∧ SlA 1 iC w (Bl w) (.slice oa g.outs.length oc) g.outs ∧
      (∀ x ∈ g.nodes, x.from_.length ≤ Rows.uptoBulk d ∧ x.pt.step < 4294967296) ∧ g.nodes.length ≤ Rows.uptoBulk d ∧ g.outs.length ≤ Rows.uptoBulk d := by
  obtain ⟨cs, rfl, hsz⟩ := okWide_struct Try.underlying25 hv
  rw [cells25] at hsz
  obtain ⟨fuel, hf⟩ := h
  obtain ⟨l⟩ := cs
  have hl : l.length = 3 := by simpa using hsz
  obtain ⟨y0, y1, y2, n, hx, _, h0, h1, h2⟩ := graph_parts (cs := l) hf
  simp only [Prod.mk.injEq] at hx
  obtain ⟨rfl, _⟩ := hx
  match l, hl, h0, h1, h2 with
  | [u0, u1, u2], _, h0, h1, h2 =>
    simp only [cells3, cells22, cells23] at h0 h1 h2
    obtain ⟨t, e0, _⟩ := DataW.trod_int Try.underlying3 h0
    simp at e0 h1 h2
    subst e0
    have hv1 := slice_of_trod Try.underlying22 (d := y1.1) (p := y1.2) h1
    have hv2 := slice_of_trod Try.underlying23 (d := y2.1) (p := y2.2) h2
    obtain ⟨na, nc, xs, rfl, hnl, hnd, hnb⟩ := nodes_of_trod hv1 (trod_cell (d := y1.1) (p := y1.2) (by obtain ⟨a, l, c, rfl⟩ := hv1; rfl) h1)
    obtain ⟨oa, oc, os, rfl, hol, hou, _⟩ := ints_of_trod hv2 (trod_cell (d := y2.1) (p := y2.2) (by obtain ⟨a, l, c, rfl⟩ := hv2; rfl) h2)
    have b1 := par_lt (l := [y0.1, y1.1, y2.1]) (x := y1.1) (by simp)
    have b2 := par_lt (l := [y0.1, y1.1, y2.1]) (x := y2.1) (by simp)
    have e1 := Bulk.els_length y1.1
    have e2 := Bulk.els_length y2.1
    exact ⟨⟨t, xs, os⟩, na, oa, nc, oc, rfl, hnd, hou, fun x hx => ⟨by have := (hnb x hx).1; omega, (hnb x hx).2⟩, by dsimp only; omega, by dsimp only; omega⟩

/-- A row of samples, as words. -/
theorem row_of_trod {v : Value} {d : DataW H} {p : List MemPlace} (hv : ∃ a len cap, v = .slice a len cap) (h : DataW.Trod enc Try.prog w base spare held 38 v d p) :
    ∃ (ao : Option Addr) (c : Nat) (l : List Nat), v = .slice ao l.length c ∧ l.length = (els d).length ∧ l.length ≤ c ∧ CFl w (Bl w) v l := by
  obtain ⟨h1, a, len, cap, rfl, h2, h3, _⟩ := slc_of_trod (R := fun w cs (x : DataW H) => ∃ n : Nat, cs = fC n) id (by omega) Try.underlying38 cells46 hv h (fun n cs d p h hl => by
    obtain ⟨b, hu, hx, _⟩ := trod_float Try.underlying46 h
    exact ⟨b, hu⟩)
  obtain ⟨ys, hy, hs⟩ := slc_choose (R' := fun _ cs (x : Nat) => cs = fC x) h1 (fun cs x _ _ h => h)
  rw [List.map_id] at hy
  exact ⟨a, cap, ys.map cn, by rw [List.length_map, hy, h2], by rw [List.length_map, hy], by rw [List.length_map, hy, ← h2]; exact h3, ys, sla_of_slc fC_len (by decide) hs, rfl⟩

/-- Rows of samples. -/
theorem rows_of_trod {v : Value} {d : DataW H} {p : List MemPlace} (hv : ∃ a len cap, v = .slice a len cap) (h : DataW.Trod enc Try.prog w base spare held 32 v d p) :
    ∃ (ao : Option Addr) (c : Nat) (ls : List (List Nat)), v = .slice ao ls.length c ∧ ls.length = (els d).length ∧ ls.length ≤ c ∧ InsR w (Bl w) v ls ∧ ∀ l ∈ ls, l.length ≤ Rows.uptoBulk d := by
  have key := slc_of_trod (R := fun w cs (x : DataW H) => Rows.uptoBulk x ≤ Rows.uptoBulk d → ∃ (u : Value) (l : List Nat), cs = vC u ∧ CFl w (Bl w) u l ∧ (∃ ao c, u = .slice ao l.length c ∧ l.length ≤ c) ∧ l.length ≤ Rows.uptoBulk d) id (by omega) Try.underlying32 cells38 hv h (fun n cs d' p h hl hb => by
    have hb : Rows.uptoBulk d' ≤ Rows.uptoBulk d := hb
    match cs, hl with
    | [u], _ =>
      have hu := slice_of_trod Try.underlying38 h
      obtain ⟨ao, c, l, rfl, h1, h2, h3⟩ := row_of_trod hu (trod_cell (by obtain ⟨a, l, c, rfl⟩ := hu; rfl) h)
      have h4 := Bulk.els_length d'
      exact ⟨_, l, rfl, h3, ⟨ao, c, rfl, h2⟩, by omega⟩)
  obtain ⟨h1, a, len, cap, rfl, h2, h3, _⟩ := key
  obtain ⟨ys, hy, hs⟩ := slc_choose (R' := fun w' cs (q : {q : Value × List Nat // CFl w (Bl w) q.1 q.2 ∧ (∃ ao c, q.1 = .slice ao q.2.length c ∧ q.2.length ≤ c) ∧ q.2.length ≤ Rows.uptoBulk d}) => cs = vC q.1.1) h1 (fun cs x hx _ h => by
    rw [List.map_id] at hx
    obtain ⟨u, l, h4, h5⟩ := h (Nat.le_of_lt (els_lt hx))
    exact ⟨⟨(u, l), h5⟩, h4⟩)
  rw [List.map_id] at hy
  have hs2 : SlA 1 vC w (Bl w) (.slice a len cap) (ys.map fun q => q.1.1) := by
    have h9 := sla_of_slc (C := fun q : {q : Value × List Nat // CFl w (Bl w) q.1 q.2 ∧ (∃ ao c, q.1 = .slice ao q.2.length c ∧ q.2.length ≤ c) ∧ q.2.length ≤ Rows.uptoBulk d} => vC q.1.1) (fun _ => rfl) (by decide) hs
    rcases h9 with ⟨b, off, cap', hb, he, hr⟩ | ⟨ao, cap', he, hnil⟩
    · refine .inl ⟨b, off, cap', hb, by rw [List.length_map]; exact he, fun i x hx => ?_⟩
      rw [List.getElem?_map] at hx
      cases hq : ys[i]? with
      | none => rw [hq] at hx; cases hx
      | some q =>
        rw [hq] at hx
        simp at hx
        subst hx
        exact hr i q hq
    · exact .inr ⟨ao, cap', he, by rw [hnil]; rfl⟩
  refine ⟨a, cap, ys.map fun q => q.1.2, by rw [List.length_map, hy, h2], by rw [List.length_map, hy], by rw [List.length_map, hy, ← h2]; exact h3, ⟨ys.map fun q => q.1.1, by rw [List.length_map, List.length_map], hs2, fun i u l hu hl => ?_⟩, fun l hl => ?_⟩
  · rw [List.getElem?_map] at hu hl
    cases hq : ys[i]? with
    | none => rw [hq] at hu; cases hu
    | some q =>
      rw [hq] at hu hl
      simp at hu hl
      subst hu hl
      exact ⟨q.2.1, q.2.2.1⟩
  · rw [List.mem_map] at hl
    obtain ⟨q, _, rfl⟩ := hl
    exact q.2.2.2
end
end Go.Proofs.Ytdliilmnfbgplaa.GOpen
