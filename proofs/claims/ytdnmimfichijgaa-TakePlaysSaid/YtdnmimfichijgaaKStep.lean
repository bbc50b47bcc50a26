/- append in a row of the call's own, as a step of a region that draws its order. -/
import Derived.Test.YtdnmimfichijgaaKCells
import Derived.Test.YtdnmimfichijgaaApp
import Derived.Maps.AppendAt
import Derived.Deep.RegionLaw
namespace Go.Proofs.Ytdnmimfichijgaa.KStep
open Go Go.RowKit Go.Proofs.Ytdnmimfichijgaa.KMod Go.Proofs.Ytdnmimfichijgaa.KRead Go.Proofs.Ytdnmimfichijgaa.KCells Go.Proofs.Ytdnmimfichijgaa.Hp Go.Proofs.Ytdnmimfichijgaa.Rd
set_option linter.unusedVariables false
set_option linter.unusedSimpArgs false

/-- What append makes of a row of the call's own and what lies in a slice. -/
theorem run_append_in {P : Program} {w : World} (base : Nat) (t ty e : TypeId) (i : TypeInfo) (z : Value) (size bytes : Nat) (ht : P.underlying t = some (.slice e)) (hi : P.info? e = some i) (hz : i.zero = some z)
    (hsize : i.size = size) (hby : i.bytes = bytes) (hzs : z.cells.size = size) (hsz : 0 < size)
    (v : Value) (n : Nat) (xs : List Value) (hown : w.ownsRow base e size v n xs)
    (ao : Option Addr) (m c : Nat) (news : List Value) (hl : news.length = m * size) (hnews : ∀ j u, news[j]? = some u → ∃ b off, ao = some ⟨b, off, none⟩ ∧ w.cell? ⟨b, off + j, none⟩ = some u) (h1 : ∀ u ∈ news, u.oneCell' = true)
    (h63 : n + m ≤ maxLen) (hbytes : (n + m) * bytes ≤ 140737488355328) (hbase : base ≤ w.heap.size) :
    ∃ v' w', (Builtin.append_ #[t, t] ty #[v, .slice ao m c]).run P w = .ok v' w' ∧ w'.ownsRow base e size v' (n + m) (xs ++ news) ∧ w.grownBy w' v.ownBlock ∧ (v'.ownBlock = v.ownBlock ∨ v'.ownBlock = some w.heap.size) := by
  cases ao with
  | some ad =>
    obtain ⟨v', w', h2, h3, h4, _, h5⟩ := run_append_own_at (P := P) w base t ty e i z size bytes ht hi hz hsize hby hzs hsz v n xs hown ad m c news hl (fun j u hj => by
      obtain ⟨b, off, he, hc⟩ := hnews j u hj
      injection he with he
      subst he
      rw [show ((⟨b, off, none⟩ : Addr).add j) = ⟨b, off + j, none⟩ from Addr.add_lit _ _ _]
      exact hc) h1 h63 hbytes hbase
    exact ⟨v', w', h2, h3, h4, h5⟩
  | none =>
    have hn : news = [] := by
      cases news with
      | nil => rfl
      | cons u l => obtain ⟨b, off, he, _⟩ := hnews 0 u rfl; cases he
    subst hn
    obtain rfl : m = 0 := by
      rcases Nat.mul_eq_zero.1 hl.symm with h | h
      · exact h
      · omega
    refine ⟨v, w, ?_, by rw [List.append_nil]; exact hown, grown_refl _ _, .inl rfl⟩
    rcases hown.2 with ⟨rfl, rfl⟩ | ⟨g, cap, cur, rfl, _, _, hnc, _⟩
    · simp [Builtin.append_, run_underlying ht, sizeOf, typeInfo, hi, Builtin.lenOf, Builtin.firstCells]
    · simp [Builtin.append_, run_underlying ht, sizeOf, typeInfo, hi, Builtin.lenOf, Builtin.firstCells, hnc, storeCells]

theorem step_append_in {P : Program} {w : World} {ops : Array Oper} {o : Oper} {a : Act} {K : Act → World → Prop} {Q : Exit → Act → World → Prop} {E : Prop} (hgd : o.guard = none) (s x : Operand) (t : TypeId)
    (ho : o.op = .call { callee := .builtin .append, args := #[s, x], argTypes := #[t, t] })
    (base : Nat) (e : TypeId) (i : TypeInfo) (z : Value) (size bytes : Nat) (ht : P.underlying t = some (.slice e)) (hi : P.info? e = some i) (hz : i.zero = some z)
    (hsize : i.size = size) (hby : i.bytes = bytes) (hzs : z.cells.size = size) (hsz : 0 < size)
    (v : Value) (n : Nat) (xs : List Value) (hs : a.eval s = v) (hown : w.ownsRow base e size v n xs)
    (ao : Option Addr) (m c : Nat) (news : List Value) (hx : a.eval x = .slice ao m c) (hl : news.length = m * size) (hnews : ∀ j u, news[j]? = some u → ∃ b off, ao = some ⟨b, off, none⟩ ∧ w.cell? ⟨b, off + j, none⟩ = some u) (h1 : ∀ u ∈ news, u.oneCell' = true)
    (h63 : n + m ≤ maxLen) (hbytes : (n + m) * bytes ≤ 140737488355328) (hbase : base ≤ w.heap.size)
    (h : ∀ oa oc w', w'.ownsRow base e size (.slice oa (n + m) oc) (n + m) (xs ++ news) → w.grownBy w' v.ownBlock → ((Value.slice oa (n + m) oc).ownBlock = v.ownBlock ∨ (Value.slice oa (n + m) oc).ownBlock = some w.heap.size) → K (a.put o.dst (.slice oa (n + m) oc)) w') :
    if Region.wanted o (yielded ops a.tmps) = true then Oper.wp P o a w K Q else E := by
  have hw : Region.wanted o (yielded ops a.tmps) = true := by simp [Region.wanted, hgd]
  rw [if_pos hw]
  obtain ⟨v', w', hr, h2, h3, h4⟩ := run_append_in (P := P) (w := w) base t o.type e i z size bytes ht hi hz hsize hby hzs hsz v n xs hown ao m c news hl hnews h1 h63 hbytes hbase
  obtain ⟨oa, oc, rfl⟩ := own_slice h2
  unfold Oper.wp
  simp [execOp, ho, resolve, invoke, builtin, hs, hx, hr, Result.andThen]
  exact h oa oc w' h2 h3 h4

/-- Empty rows, in worlds with a block more. -/
theorem own_emp {w : World} {base g : Nat} {e : TypeId} {size : Nat} (h : w.heap[g]? = some (.cells #[] e (0, 0))) (hg : base ≤ g) : w.ownsRow base e size (.slice (some ⟨g, 0, none⟩) 0 0) 0 [] :=
  ⟨by simp, .inr ⟨g, 0, #[], rfl, hg, h, Nat.le_refl _, Nat.zero_le _, by simp, by simp⟩⟩
theorem alloc2_old (w : World) (a b : Obj) : ((w.alloc a).alloc b).heap[w.heap.size]? = some a := row_kept (grown_alloc (grown_refl (w.alloc a) none) b) (heap_alloc_new w a) (by simp)
theorem alloc2_new (w : World) (a b : Obj) : ((w.alloc a).alloc b).heap[w.heap.size + 1]? = some b := by
  have h := heap_alloc_new (w.alloc a) b
  have e : (w.alloc a).heap.size = w.heap.size + 1 := by simp
  rw [e] at h
  exact h
theorem alloc2_kept {w : World} {a b : Obj} {i : Nat} {o : Obj} (h : w.heap[i]? = some o) : ((w.alloc a).alloc b).heap[i]? = some o := row_kept (grown_alloc (grown_alloc (grown_refl w none) a) b) h (by simp)

/-- The same, to an empty row. -/
theorem step_append_emp {P : Program} {w : World} {ops : Array Oper} {o : Oper} {a : Act} {K : Act → World → Prop} {Q : Exit → Act → World → Prop} {E : Prop} (hgd : o.guard = none) (s x : Operand) (t : TypeId)
    (ho : o.op = .call { callee := .builtin .append, args := #[s, x], argTypes := #[t, t] })
    (base : Nat) (e : TypeId) (i : TypeInfo) (z : Value) (size bytes : Nat) (ht : P.underlying t = some (.slice e)) (hi : P.info? e = some i) (hz : i.zero = some z)
    (hsize : i.size = size) (hby : i.bytes = bytes) (hzs : z.cells.size = size) (hsz : 0 < size)
    (g : Nat) (hs : a.eval s = .slice (some ⟨g, 0, none⟩) 0 0) (hemp : w.heap[g]? = some (.cells #[] e (0, 0))) (hg : base ≤ g)
    (ao : Option Addr) (m c : Nat) (news : List Value) (hx : a.eval x = .slice ao m c) (hl : news.length = m * size) (hnews : ∀ j u, news[j]? = some u → ∃ b off, ao = some ⟨b, off, none⟩ ∧ w.cell? ⟨b, off + j, none⟩ = some u) (h1 : ∀ u ∈ news, u.oneCell' = true)
    (h63 : m ≤ maxLen) (hbytes : m * bytes ≤ 140737488355328) (hbase : base ≤ w.heap.size)
    (h : ∀ oa oc w', w'.ownsRow base e size (.slice oa m oc) m news → w.grownBy w' (some g) → K (a.put o.dst (.slice oa m oc)) w') :
    if Region.wanted o (yielded ops a.tmps) = true then Oper.wp P o a w K Q else E := by
  have H := step_append_in (P := P) (w := w) (ops := ops) (o := o) (a := a) (K := K) (Q := Q) (E := E) hgd s x t ho base e i z size bytes ht hi hz hsize hby hzs hsz (.slice (some ⟨g, 0, none⟩) 0 0) 0 [] hs (own_emp hemp hg) ao m c news hx hl hnews h1 (by rw [Nat.zero_add]; exact h63) (by rw [Nat.zero_add]; exact hbytes) hbase
  simp only [Nat.zero_add, List.nil_append] at H
  exact H (fun oa oc w' h2 h3 _ => h oa oc w' h2 h3)

theorem news_row {w : World} {B : Nat} {cs : List Value} {e : TypeId} {z : Nat × Nat} (h : w.heap[B]? = some (.cells cs.toArray e z)) : ∀ j u, cs[j]? = some u → ∃ b off, (some ⟨B, 0, none⟩ : Option Addr) = some ⟨b, off, none⟩ ∧ w.cell? ⟨b, off + j, none⟩ = some u := by
  intro j u hu
  refine ⟨B, 0, rfl, ?_⟩
  rw [Nat.zero_add, cell_of h]
  simpa using hu

/-- The cells of a tone slice's part. -/
theorem news_tones {w : World} {ao : Option Addr} {n c : Nat} {ts : List Tone} (h : Tos w (.slice ao n c) ts) : ∀ j u, (flC Tone.cells ts)[j]? = some u → ∃ b off, ao = some ⟨b, off, none⟩ ∧ w.cell? ⟨b, off + j, none⟩ = some u := by
  intro j u hu
  obtain ⟨e, he, hu2⟩ := flC_split tone_len (by decide) hu
  obtain ⟨b, off, rfl, _, hrg⟩ := sla_at h he
  refine ⟨b, off, rfl, ?_⟩
  have := hrg (j % 5) u hu2
  rw [show off + j = off + j / 5 * 5 + j % 5 from by omega]
  exact this
theorem sla_take {α : Type} {s : Nat} {C : α → List Value} {w : World} {A : Nat → Prop} {ao : Option Addr} {n c k : Nat} {xs : List α} (h : SlA s C w A (.slice ao n c) xs) (hn : xs.length = n) (hk : k ≤ n) : SlA s C w A (.slice ao k c) (xs.take k) := by
  rcases h with ⟨b, off, cap, ha, e, h⟩ | ⟨ao2, c2, e, rfl⟩
  · simp only [Value.slice.injEq] at e
    refine .inl ⟨b, off, c, ha, by rw [e.1, List.length_take, Nat.min_eq_left (by omega)], fun i x hx => h i x ?_⟩
    rw [List.getElem?_take] at hx
    split at hx
    · exact hx
    · cases hx
  · simp at hn
    subst hn
    obtain rfl : k = 0 := by omega
    exact .inr ⟨ao, c, rfl, rfl⟩
end Go.Proofs.Ytdnmimfichijgaa.KStep
