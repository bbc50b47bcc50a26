/- A copy of a line. -/
import Derived.Test.YtdnmimfichijgaaKLess
import Derived.Test.YtdnmimfichijgaaKCells
import Derived.Maps.AppendAt
import Derived.Laws.OwnMore
import Derived.WalkSpells
namespace Go.Proofs.Ytdnmimfichijgaa.KClone
open Go Go.RowKit Go.Proofs.Ytdnmimfichijgaa.KMod Go.Proofs.Ytdnmimfichijgaa.KRead Go.Proofs.Ytdnmimfichijgaa.KLess Go.Proofs.Ytdnmimfichijgaa.KCells Go.Proofs.Ytdnmimfichijgaa.Opn Go.Proofs.Ytdnmimfichijgaa.Hp Go.Proofs.Ytdnmimfichijgaa.Rd
set_option linter.unusedVariables false
set_option linter.unusedSimpArgs false

theorem info38 : (Try.prog.info? 38).map (fun i => (i.zero, i.size, i.bytes)) = some (some (.agg #[.int .i64 0, .int .i64 0, .int .i64 0, .int .i64 0, .int .i64 0]), 5, 40) := by kernel_rfl

/-- All tones of a slice behind a row of the call's own. -/
theorem append_tones {ops : Array Oper} {rest : List Oper} {o : Oper} {a : Act} {Q : Exit → Act → World → Prop} (hgd : o.guard = none) (s x : Operand) (t : TypeId) (ht : Try.prog.underlying t = some (.slice 38))
    (ho : o.op = .call { callee := .builtin .append, args := #[s, x], argTypes := #[t, t] }) (B : Nat) (v : Value) (Y : List Tone) (w : World) (ao : Option Addr) (c : Nat) (es : List Tone) (n : Nat) (hn : es.length = n)
    (hs : a.eval s = v) (hown : w.ownsRow B 38 5 v Y.length (flC Tone.cells Y)) (hx : a.eval x = .slice ao n c) (hil : Tos w (.slice ao n c) es) (hm : Y.length + n ≤ 1099511627776) (hB : B ≤ w.heap.size)
    (h : ∀ v' w', Hid (w'.ownsRow B 38 5 v' (Y ++ es).length (flC Tone.cells (Y ++ es))) → Hid (w.grownBy w' v.ownBlock) → wpList Try.prog ops Q rest (a.put o.dst v') w') :
    wpList Try.prog ops Q (o :: rest) a w := by
  obtain ⟨i0, hi, hz0, hz1, hz2⟩ := info_parts info38
  subst hn
  cases ao with
  | some ad =>
    refine wpList_append_own_at w hgd s x t ho B 38 i0 (.agg #[.int .i64 0, .int .i64 0, .int .i64 0, .int .i64 0, .int .i64 0]) 5 40 ht hi hz0 hz1 hz2 rfl (by decide) v Y.length (flC Tone.cells Y) hs hown ad es.length c (flC Tone.cells es) hx (by rw [flC_len tone_len]) ?_ (tone_one es) (by unfold maxLen; omega) (by omega) hB ?_
    · intro j u hu
      obtain ⟨e, he, hu2⟩ := flC_split tone_len (by decide) hu
      obtain ⟨b, off, hh, _, hrg⟩ := sla_at hil he
      injection hh with hh
      subst hh
      rw [show ((⟨b, off, none⟩ : Addr).add j) = ⟨b, off + j, none⟩ from Addr.add_lit _ _ _]
      have := hrg (j % 5) u hu2
      rw [show off + j = off + j / 5 * 5 + j % 5 from by omega]
      exact this
    · intro v' w' h2 h3 _ _
      refine h v' w' ?_ h3
      unfold Hid
      rw [List.length_append, flC_append]
      exact h2
  | none =>
    have hn : es = [] := by
      rcases hil with ⟨b, off, cap', _, hh, _⟩ | ⟨_, _, _, hnil⟩
      · simp at hh
      · exact hnil
    subst hn
    refine wpList_plain hgd fun K hK => ?_
    have hrun : (Builtin.append_ #[t, t] o.type #[v, .slice none 0 c]).run Try.prog w = .ok v w := by
      rcases hown.2 with ⟨rfl, hy⟩ | ⟨g, cap, cur, rfl, _, _, hnc, _⟩
      · simp [Builtin.append_, run_underlying ht, sizeOf, typeInfo, hi, Builtin.lenOf, Builtin.firstCells]
      · simp [Builtin.append_, run_underlying ht, sizeOf, typeInfo, hi, Builtin.lenOf, Builtin.firstCells, hnc, storeCells]
    unfold Oper.wp
    simp only [List.length_nil] at hx
    simp [execOp, ho, resolve, invoke, builtin, hs, hx, hrun, Result.andThen]
    refine hK _ _ (h v w ?_ (grown_refl _ _))
    rw [List.append_nil]
    exact hown

set_option maxHeartbeats 1000000 in
set_option maxRecDepth 100000 in
theorem clone_calls (ao : Option Addr) (c : Nat) (es : List Tone) (w : World) (hv : Tos w (.slice ao es.length c) es) (hm : es.length ≤ 1099511627776) :
    Calls Try.prog 27 #[.slice ao es.length c] w fun e w' => ∃ v, e = .returned v ∧ Hid (w'.ownsRow w.heap.size 38 5 v es.length (flC Tone.cells es)) ∧ Hid (w.grownBy w' none) := by
  obtain ⟨n, hn⟩ : ∃ n, es.length = n := ⟨_, rfl⟩
  have HN := Lib.hid hn
  rw [hn] at hv hm ⊢
  have HV := Lib.hid hv
  clear hv hn
  have hnil := fun (w : World) => Lib.run_eql_slice_nil (P := Try.prog) w 77 38 ao n c 0 0 Try.underlying77
  cases ao with
  | none =>
    have HE : Hid (es = []) := by
      rcases HV.out with ⟨b, off, cap', _, hh, _⟩ | ⟨_, _, _, hnil⟩
      · simp at hh
      · exact hnil
    simp only [Option.isNone_none] at hnil
    go_enter Try.func27, Try.ntmps27
    go_wp2_with fail
    go_ret
    refine ⟨_, rfl, ?_, grown_refl _ _⟩
    rw [← HN.out, HE.out]
    exact World.ownsRow_nil _ _ _ _
  | some ad =>
    simp only [Option.isNone_some] at hnil
    have hemp : ∀ o, (w.alloc (.cells #[] 38)).ownsRow w.heap.size 38 5 (.slice (some ⟨w.heap.size, 0, none⟩) 0 o) 0 [] ∨ True := fun o => .inr trivial
    have HEMP : Hid ((w.alloc (.cells #[] 38)).ownsRow w.heap.size 38 5 (.slice (some ⟨w.heap.size, 0, none⟩) 0 0) ([] : List Tone).length (flC Tone.cells [])) := ⟨rfl, .inr ⟨w.heap.size, 0, #[], rfl, Nat.le_refl _, heap_alloc_new _ _, Nat.le_refl _, Nat.zero_le _, rfl, rfl⟩⟩
    have HGA : Hid (w.grownBy (w.alloc (.cells #[] 38)) none) := grown_alloc (grown_refl _ _) _
    clear hemp
    go_enter Try.func27, Try.ntmps27
    go_wp2_with (at_builtin; refine append_tones rfl _ _ 77 Try.underlying77 rfl w.heap.size (.slice (some ⟨w.heap.size, 0, none⟩) 0 0) [] _ (some ad) c es n HN.out rfl HEMP.out rfl (Tos.grown HV.out HGA.out) (by simp; omega) (by simp) ?_; intro v2 w2 h2 hg2)
    go_ret
    refine ⟨_, rfl, ?_, grown_own HGA.out HEMP.out (Nat.le_refl _) hg2.out⟩
    have := h2.out
    rw [List.nil_append, HN.out] at this
    exact this
end Go.Proofs.Ytdnmimfichijgaa.KClone
