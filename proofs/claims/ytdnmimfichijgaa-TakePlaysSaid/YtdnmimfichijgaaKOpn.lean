/- The arguments, opened: tones, edits, steps. -/
import Derived.Test.YtdnmimfichijgaaRows
import Derived.Test.YtdnmimfichijgaaKTake
import Derived.OpenShut
namespace Go.Proofs.Ytdnmimfichijgaa.KOpn
open Go Go.RowKit Go.ChangeShapes Go.WideShapes Go.Deep Go.Proofs.Ytdnmimfichijgaa.KMod Go.Proofs.Ytdnmimfichijgaa.KTk Go.Proofs.Ytdnmimfichijgaa.KRead Go.Proofs.Ytdnmimfichijgaa.KTake Go.Proofs.Ytdnmimfichijgaa.Opn Go.Proofs.Ytdnmimfichijgaa.Hp Go.Proofs.Ytdnmimfichijgaa.Rd
set_option linter.unusedVariables false

theorem own : ownKnob Try.prog.godebug = none := by kernel_rfl
theorem laidOut : laidOutB Try.prog = true := by kernel_rfl
theorem cells2 : Try.prog.cellsOf 2 = 1 := by kernel_rfl
theorem cells3 : Try.prog.cellsOf 3 = 1 := by kernel_rfl
theorem cells4 : Try.prog.cellsOf 4 = 1 := by kernel_rfl
theorem cells38 : Try.prog.cellsOf 38 = 5 := by kernel_rfl
theorem cells40 : Try.prog.cellsOf 40 = 7 := by kernel_rfl
theorem cells44 : Try.prog.cellsOf 44 = 11 := by kernel_rfl
theorem within38 : within Try.prog 2 38 = true := by kernel_rfl
theorem leaves38 : leaves Try.prog 2 38 0 = [(0, 3), (1, 3), (2, 3), (3, 3), (4, 3)] := by kernel_rfl
theorem within40 : within Try.prog 3 40 = true := by kernel_rfl
theorem leaves40 : leaves Try.prog 3 40 0 = [(0, 3), (1, 3), (2, 3), (3, 3), (4, 3), (5, 3), (6, 3)] := by kernel_rfl
theorem within44 : within Try.prog 4 44 = true := by kernel_rfl
theorem leaves44 : leaves Try.prog 4 44 0 = [(0, 4), (1, 3), (2, 3), (3, 3), (4, 3), (5, 3), (6, 3), (7, 3), (8, 3), (9, 3), (10, 2)] := by kernel_rfl

/-- What each element is, chosen. -/
theorem slc_choose {α β : Type} {s : Nat} {R : World → List Value → α → Prop} {R' : World → List Value → β → Prop} {w : World} {v : Value} {xs : List α} (h : Slc s R w v xs) (hc : ∀ cs x, cs.length = s → R w cs x → ∃ y, R' w cs y) :
    ∃ ys : List β, ys.length = xs.length ∧ Slc s R' w v ys := by
  rcases h with ⟨b, off, cap, rfl, h⟩ | ⟨ao, cap, rfl, rfl⟩
  · have key : ∀ i : Fin xs.length, ∃ y, ∃ cs : List Value, cs.length = s ∧ (∀ j u, cs[j]? = some u → w.cell? ⟨b, off + (i.val * s + j), none⟩ = some u) ∧ R' w cs y := by
      intro i
      obtain ⟨cs, h1, h2, h3⟩ := h i.val xs[i] (List.getElem?_eq_getElem i.isLt)
      obtain ⟨y, hy⟩ := hc cs _ h1 h3
      exact ⟨y, cs, h1, h2, hy⟩
    have key2 : ∀ i : Fin xs.length, ∃ cs : List Value, cs.length = s ∧ (∀ j u, cs[j]? = some u → w.cell? ⟨b, off + (i.val * s + j), none⟩ = some u) ∧ R' w cs (Classical.choose (key i)) := fun i => Classical.choose_spec (key i)
    refine ⟨List.ofFn fun i => Classical.choose (key i), by simp, .inl ⟨b, off, cap, by simp, fun i y hy => ?_⟩⟩
    rw [List.getElem?_ofFn] at hy
    split at hy
    · rename_i hi
      simp only [Option.some.injEq] at hy
      subst hy
      exact key2 ⟨i, hi⟩
    · cases hy
  · exact ⟨[], rfl, .inr ⟨ao, cap, rfl, rfl⟩⟩

theorem sla_of_slc {α : Type} {s : Nat} {C : α → List Value} {w : World} {v : Value} {xs : List α} (h : Slc s (fun _ cs x => cs = C x) w v xs) : SlA s C w AnyB v xs := by
  rcases h with ⟨b, off, cap, rfl, h⟩ | h
  · refine .inl ⟨b, off, cap, trivial, rfl, fun i x hx j u hu => ?_⟩
    obtain ⟨cs, h1, h2, rfl⟩ := h i x hx
    have := h2 j u hu
    rw [show off + i * s + j = off + (i * s + j) from by omega]
    exact this
  · exact .inr h

section
variable {H : Type} {enc : TypeId × Value → H} {w : World} {base : Nat} {spare : Nat → Bool} {held : Bool}

theorem leaf_int {cs : List Value} {o n : Nat} {y : DataW H × List MemPlace} (h : DataW.trod enc Try.prog w base spare held n 3 ((cs.drop o).take 1) = some y) : ∃ x : Int, cs[o]? = some (.int .i64 x) := by
  obtain ⟨x, hb, _, hw⟩ := DataW.trod_int Try.underlying3 h
  refine ⟨x, ?_⟩
  have := congrArg (·[0]?) hb
  simpa [List.getElem?_take, List.getElem?_drop] using this
theorem leaf_int2 {cs : List Value} {o n : Nat} {y : DataW H × List MemPlace} (h : DataW.trod enc Try.prog w base spare held n 2 ((cs.drop o).take 1) = some y) : ∃ x : Int, cs[o]? = some (.int .i64 x) := by
  obtain ⟨x, hb, _, hw⟩ := DataW.trod_int Try.underlying2 h
  refine ⟨x, ?_⟩
  have := congrArg (·[0]?) hb
  simpa [List.getElem?_take, List.getElem?_drop] using this
theorem leaf_bool {cs : List Value} {o n : Nat} {y : DataW H × List MemPlace} (h : DataW.trod enc Try.prog w base spare held n 4 ((cs.drop o).take 1) = some y) : ∃ x : Bool, cs[o]? = some (.bool x) := by
  obtain ⟨x, hb, _⟩ := DataW.trod_bool Try.underlying4 h
  refine ⟨x, ?_⟩
  have := congrArg (·[0]?) hb
  simpa [List.getElem?_take, List.getElem?_drop] using this

theorem open_tone {n : Nat} {cs : List Value} {d : DataW H} {p : List MemPlace} (h : DataW.trod enc Try.prog w base spare held n 38 cs = some (d, p)) (hl : cs.length = 5) : ∃ t : Tone, cs = t.cells := by
  have hbig : (cs.drop 0).take (Try.prog.cellsOf 38) = cs := by rw [cells38, List.drop_zero, List.take_of_length_le (by omega)]
  have hq := leaves_of_trod (enc := enc) (P := Try.prog) (w := w) (base := base) (spare := spare) (held := held) cs 2 38 0 n (d, p) within38 (by rw [hbig]; exact h)
  rw [leaves38] at hq
  have g : ∀ o, (o, 3) ∈ [(0, 3), (1, 3), (2, 3), (3, 3), (4, 3)] → ∃ x : Int, cs[o]? = some (.int .i64 x) := fun o ho => by
    obtain ⟨n, y, h⟩ := hq (o, 3) ho
    rw [cells3] at h
    exact leaf_int h
  obtain ⟨x0, h0⟩ := g 0 (by simp)
  obtain ⟨x1, h1⟩ := g 1 (by simp)
  obtain ⟨x2, h2⟩ := g 2 (by simp)
  obtain ⟨x3, h3⟩ := g 3 (by simp)
  obtain ⟨x4, h4⟩ := g 4 (by simp)
  refine ⟨⟨x0, x1, x2, x3, x4⟩, ?_⟩
  match cs, hl, h0, h1, h2, h3, h4 with
  | [u0, u1, u2, u3, u4], _, h0, h1, h2, h3, h4 => simp at h0 h1 h2 h3 h4; subst h0 h1 h2 h3 h4; rfl

theorem open_edit {n : Nat} {cs : List Value} {d : DataW H} {p : List MemPlace} (h : DataW.trod enc Try.prog w base spare held n 40 cs = some (d, p)) (hl : cs.length = 7) : ∃ e : Ed, cs = e.cells := by
  have hbig : (cs.drop 0).take (Try.prog.cellsOf 40) = cs := by rw [cells40, List.drop_zero, List.take_of_length_le (by omega)]
  have hq := leaves_of_trod (enc := enc) (P := Try.prog) (w := w) (base := base) (spare := spare) (held := held) cs 3 40 0 n (d, p) within40 (by rw [hbig]; exact h)
  rw [leaves40] at hq
  have g : ∀ o, (o, 3) ∈ [(0, 3), (1, 3), (2, 3), (3, 3), (4, 3), (5, 3), (6, 3)] → ∃ x : Int, cs[o]? = some (.int .i64 x) := fun o ho => by
    obtain ⟨n, y, h⟩ := hq (o, 3) ho
    rw [cells3] at h
    exact leaf_int h
  obtain ⟨x0, h0⟩ := g 0 (by simp)
  obtain ⟨x1, h1⟩ := g 1 (by simp)
  obtain ⟨x2, h2⟩ := g 2 (by simp)
  obtain ⟨x3, h3⟩ := g 3 (by simp)
  obtain ⟨x4, h4⟩ := g 4 (by simp)
  obtain ⟨x5, h5⟩ := g 5 (by simp)
  obtain ⟨x6, h6⟩ := g 6 (by simp)
  refine ⟨⟨x0, x1, ⟨x2, x3, x4, x5, x6⟩⟩, ?_⟩
  match cs, hl, h0, h1, h2, h3, h4, h5, h6 with
  | [u0, u1, u2, u3, u4, u5, u6], _, h0, h1, h2, h3, h4, h5, h6 => simp at h0 h1 h2 h3 h4 h5 h6; subst h0 h1 h2 h3 h4 h5 h6; rfl

theorem open_step {n : Nat} {cs : List Value} {d : DataW H} {p : List MemPlace} (h : DataW.trod enc Try.prog w base spare held n 44 cs = some (d, p)) (hl : cs.length = 11) : ∃ t : Stp, cs = stC t := by
  have hbig : (cs.drop 0).take (Try.prog.cellsOf 44) = cs := by rw [cells44, List.drop_zero, List.take_of_length_le (by omega)]
  have hq := leaves_of_trod (enc := enc) (P := Try.prog) (w := w) (base := base) (spare := spare) (held := held) cs 4 44 0 n (d, p) within44 (by rw [hbig]; exact h)
  rw [leaves44] at hq
  have g : ∀ o, (o, 3) ∈ [(0, 4), (1, 3), (2, 3), (3, 3), (4, 3), (5, 3), (6, 3), (7, 3), (8, 3), (9, 3), (10, 2)] → ∃ x : Int, cs[o]? = some (.int .i64 x) := fun o ho => by
    obtain ⟨n, y, h⟩ := hq (o, 3) ho
    rw [cells3] at h
    exact leaf_int h
  obtain ⟨b0, h0⟩ : ∃ x : Bool, cs[0]? = some (.bool x) := by
    obtain ⟨n, y, h⟩ := hq (0, 4) (by simp)
    rw [cells4] at h
    exact leaf_bool h
  obtain ⟨x10, h10⟩ : ∃ x : Int, cs[10]? = some (.int .i64 x) := by
    obtain ⟨n, y, h⟩ := hq (10, 2) (by simp)
    rw [cells2] at h
    exact leaf_int2 h
  obtain ⟨x1, h1⟩ := g 1 (by simp)
  obtain ⟨x2, h2⟩ := g 2 (by simp)
  obtain ⟨x3, h3⟩ := g 3 (by simp)
  obtain ⟨x4, h4⟩ := g 4 (by simp)
  obtain ⟨x5, h5⟩ := g 5 (by simp)
  obtain ⟨x6, h6⟩ := g 6 (by simp)
  obtain ⟨x7, h7⟩ := g 7 (by simp)
  obtain ⟨x8, h8⟩ := g 8 (by simp)
  obtain ⟨x9, h9⟩ := g 9 (by simp)
  refine ⟨⟨b0, ⟨x1, x2, ⟨x3, x4, x5, x6, x7⟩⟩, x8, x9, x10⟩, ?_⟩
  match cs, hl, h0, h1, h2, h3, h4, h5, h6, h7, h8, h9, h10 with
  | [u0, u1, u2, u3, u4, u5, u6, u7, u8, u9, u10], _, h0, h1, h2, h3, h4, h5, h6, h7, h8, h9, h10 => simp at h0 h1 h2 h3 h4 h5 h6 h7 h8 h9 h10; subst h0 h1 h2 h3 h4 h5 h6 h7 h8 h9 h10; rfl

theorem tos_of_trod {v : Value} {d : DataW H} {p : List MemPlace} (hv : ∃ a len cap, v = .slice a len cap) (h : DataW.Trod enc Try.prog w base spare held 30 v d p) :
    ∃ (ao : Option Addr) (cap : Nat) (ts : List Tone), v = .slice ao ts.length cap ∧ ts.length = (els d).length ∧ Tos w (.slice ao ts.length cap) ts := by
  obtain ⟨h1, a, len, cap, rfl, h2, h3, _⟩ := slc_of_trod (R := fun w cs (x : DataW H) => ∃ t : Tone, cs = t.cells) id (by omega) Try.underlying30 cells38 hv h (fun n cs d p h hl => open_tone h hl)
  obtain ⟨ys, hy, hs⟩ := slc_choose (R' := fun _ cs (x : Tone) => cs = x.cells) h1 (fun cs x _ h => h)
  rw [List.map_id] at hy
  exact ⟨a, cap, ys, by rw [hy, h2], hy, by rw [hy, ← h2]; exact sla_of_slc hs⟩

theorem steps_of_trod {v : Value} {d : DataW H} {p : List MemPlace} (hv : ∃ a len cap, v = .slice a len cap) (h : DataW.Trod enc Try.prog w base spare held 23 v d p) :
    ∃ (ao : Option Addr) (cap : Nat) (ps : List Stp), v = .slice ao ps.length cap ∧ ps.length = (els d).length ∧ SlA 11 stC w AnyB (.slice ao ps.length cap) ps := by
  obtain ⟨h1, a, len, cap, rfl, h2, h3, _⟩ := slc_of_trod (R := fun w cs (x : DataW H) => ∃ t : Stp, cs = stC t) id (by omega) Try.underlying23 cells44 hv h (fun n cs d p h hl => open_step h hl)
  obtain ⟨ys, hy, hs⟩ := slc_choose (R' := fun _ cs (x : Stp) => cs = stC x) h1 (fun cs x _ h => h)
  rw [List.map_id] at hy
  exact ⟨a, cap, ys, by rw [hy, h2], hy, by rw [hy, ← h2]; exact sla_of_slc hs⟩

theorem words_of_trod {v : Value} {d : DataW H} {p : List MemPlace} (hv : ∃ a len cap, v = .slice a len cap) (h : DataW.Trod enc Try.prog w base spare held 22 v d p) :
    ∃ (ao : Option Addr) (cap : Nat) (ws : List Int), v = .slice ao ws.length cap ∧ ws.length = (els d).length ∧ Ils w (.slice ao ws.length cap) ws := by
  have hil := ils_of_trod Try.underlying22 cells2 Try.underlying2 hv h
  obtain ⟨ao, c, rfl, _⟩ := sl_open hil
  exact ⟨ao, c, (els d).map int, rfl, by simp, hil⟩

theorem edit_of_trod {b0 : Nat} {r : Reach} {v : Value} {d : DataW H} {p : List MemPlace} (hv : Value.okWide Try.prog w r b0 40 v) (h : DataW.Trod enc Try.prog w base spare held 40 v d p) :
    ∃ e : Ed, v = .agg #[.int .i64 e.do_, .int .i64 e.n, .int .i64 e.t.at_, .int .i64 e.t.long, .int .i64 e.t.lt, .int .i64 e.t.al, .int .i64 e.t.oc] := by
  obtain ⟨cs, rfl, hsz⟩ := okWide_struct Try.underlying40 hv
  rw [cells40] at hsz
  obtain ⟨fuel, hf⟩ := h
  obtain ⟨l⟩ := cs
  have hl : l.length = 7 := by simpa using hsz
  obtain ⟨e, he⟩ := open_edit hf hl
  refine ⟨e, ?_⟩
  have he' : l = e.cells := he
  rw [he']
  rfl
end
end Go.Proofs.Ytdnmimfichijgaa.KOpn
