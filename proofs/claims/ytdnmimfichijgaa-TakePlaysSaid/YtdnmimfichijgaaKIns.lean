/- Insert of one tone: the walks. -/
import Derived.Test.YtdnmimfichijgaaKDel
import Derived.Lib.Overlaps
import Derived.Laws.Externs
import Derived.Lib.AppendZerosOnto
namespace Go.Proofs.Ytdnmimfichijgaa.KIns
open Go Go.RowKit Go.Proofs.Ytdnmimfichijgaa.KMod Go.Proofs.Ytdnmimfichijgaa.KRead Go.Proofs.Ytdnmimfichijgaa.KLess Go.Proofs.Ytdnmimfichijgaa.KCells Go.Proofs.Ytdnmimfichijgaa.KClone Go.Proofs.Ytdnmimfichijgaa.KDel Go.Proofs.Ytdnmimfichijgaa.Opn Go.Proofs.Ytdnmimfichijgaa.Hp Go.Proofs.Ytdnmimfichijgaa.Rd
set_option linter.unusedVariables false
set_option linter.unusedSimpArgs false

/-- 'copy' where its run is known, for the walk. -/
theorem wp_copy_run {P : Program} {o : Oper} {a : Act} {w : World} {K : Act → World → Prop} {Q : Exit → Act → World → Prop} (d s : Operand) (t t' : TypeId)
    (ho : o.op = .call { callee := .builtin .copy, args := #[d, s], argTypes := #[t, t'] }) (v u : Value) (hd : a.eval d = v) (hs : a.eval s = u) {v' : Value} {w' : World}
    (hr : (Builtin.copy_ #[t, t'] o.type #[v, u]).run P w = .ok v' w') (h : K (a.put o.dst v') w') : o.wp P a w K Q := by
  unfold Oper.wp execOp
  simp only [ho, resolve, invoke, builtin, Sem.run_bind, Sem.run_pure, Result.andThen_ok, List.map_toArray, List.map_cons, List.map_nil, hd, hs, hr]
  exact h
theorem wpList_copy_run {P : Program} (w : World) {ops : Array Oper} {rest : List Oper} {o : Oper} {a : Act} {Q : Exit → Act → World → Prop} (hgd : o.guard = none) (d s : Operand) (t t' : TypeId)
    (ho : o.op = .call { callee := .builtin .copy, args := #[d, s], argTypes := #[t, t'] }) (v u : Value) (hd : a.eval d = v) (hs : a.eval s = u) {v' : Value} {w' : World}
    (hr : (Builtin.copy_ #[t, t'] o.type #[v, u]).run P w = .ok v' w') (h : wpList P ops Q rest (a.put o.dst v') w') : wpList P ops Q (o :: rest) a w :=
  wpList_plain hgd fun _ hK => wp_copy_run d s t t' ho v u hd hs hr (hK _ _ h)
theorem step_copy_run {P : Program} {ops : Array Oper} {o : Oper} {a : Act} {w : World} {K : Act → World → Prop} {Q : Exit → Act → World → Prop} {E : Prop}
    (hg : o.guard = none) (d x : Operand) (dT sT : TypeId) (hop : o.op = Op.call { callee := Callee.builtin Builtin.copy, args := #[d, x], argTypes := #[dT, sT] })
    (v u : Value) (hd : a.eval d = v) (hx : a.eval x = u) {v' : Value} {w' : World} (hr : (Builtin.copy_ #[dT, sT] o.type #[v, u]).run P w = .ok v' w') (hK : K (a.put o.dst v') w') :
    if Region.wanted o (yielded ops a.tmps) = true then Oper.wp P o a w K Q else E := by
  have hw : Region.wanted o (yielded ops a.tmps) = true := by simp [Region.wanted, hg]
  rw [if_pos hw]
  exact wp_copy_run d x dT sT hop v u hd hx hr hK

theorem size38 (w : World) : (Go.sizeOf 38).run Try.prog w = .ok 5 w := by kernel_rfl

theorem overlaps_no {w : World} {vb g : Nat} {vc gc : Array Value} (hv : w.heap[vb]? = some (.cells vc 38 (0, 0))) (hg : w.heap[g]? = some (.cells gc 38 (0, 0))) (hne : vb ≠ g) (hgc : gc.size ≠ 0) (o : Nat) (la ca lb cb : Nat) :
    (callFunc 36 #[.slice (some ⟨vb, 0, none⟩) la ca, .slice (some ⟨g, o, none⟩) lb cb]).run Try.prog w = .ok (.value (.bool false)) w := by
  rw [run_callFunc_extern Try.func36 (by kernel_rfl) (by kernel_rfl) (by kernel_rfl) (e := Extern.SlicesOverlaps.overlaps #[30, 30] #[4]) (by kernel_rfl),
    Lib.run_overlaps_apart w 30 4 38 Try.underlying30 5 size38 ⟨vb, 0, none⟩ ⟨g, o, none⟩ la ca lb cb hne 38 38 vc.size gc.size (by simp [World.shape?, hv]) (by simp [World.shape?, hg]) hgc (free_of hv 0) (free_of hv _)]
  rfl

/-- What the cells of a line are with one tone more. -/
theorem ins_get {es : List Tone} {t : Tone} {k n : Nat} (hn : es.length = n) (hk : k ≤ n) (j : Nat) : (flC Tone.cells (es.take k ++ t :: es.drop k))[j]? = if j < k * 5 then (flC Tone.cells es)[j]? else if j < (k + 1) * 5 then t.cells[j - k * 5]? else (flC Tone.cells (es.drop k))[j - (k + 1) * 5]? := by
  have e1 : flC Tone.cells (es.take k ++ t :: es.drop k) = flC Tone.cells (es.take k) ++ (t.cells ++ flC Tone.cells (es.drop k)) := by rw [flC_append]; rfl
  have e2 : (flC Tone.cells (es.take k)).length = k * 5 := by rw [flC_len tone_len, List.length_take, Nat.min_eq_left (by omega)]
  have e3 : flC Tone.cells es = flC Tone.cells (es.take k) ++ flC Tone.cells (es.drop k) := by rw [← flC_append, List.take_append_drop]
  rw [e1]
  split
  · rename_i h
    rw [List.getElem?_append_left (by omega), e3, List.getElem?_append_left (by omega)]
  · rename_i h
    rw [List.getElem?_append_right (by omega), e2]
    split
    · rename_i h2
      rw [List.getElem?_append_left (by rw [tone_len]; omega)]
    · rename_i h2
      rw [List.getElem?_append_right (by rw [tone_len]; omega), tone_len, show j - k * 5 - 5 = j - (k + 1) * 5 from by omega]

set_option maxHeartbeats 4000000 in
set_option maxRecDepth 100000 in
/-- There is room, and it is not the last one. -/
theorem ins_room (g c n k vb : Nat) (cur vcs : Array Value) (es : List Tone) (t : Tone) (w : World) (hn : es.length = n) (hkn : k < n) (hroom : n + 1 ≤ c) (hc : c ≤ maxLen) (hr : w.heap[g]? = some (.cells cur 38 (0, 0))) (hs : cur.size = c * 5) (hx : ∀ j : Nat, j < n * 5 → cur[j]? = (flC Tone.cells es)[j]?)
    (hv : w.heap[vb]? = some (.cells vcs 38 (0, 0))) (hvt : ∀ (j : Nat) (u : Value), t.cells[j]? = some u → vcs[j]? = some u) (hne : vb ≠ g) :
    Calls Try.prog 35 #[.slice (some ⟨g, 0, none⟩) n c, .int .i64 (k : Int), .slice (some ⟨vb, 0, none⟩) 1 1] w fun e w' => e = .returned (.slice (some ⟨g, 0, none⟩) (n + 1) c) ∧ Hid (w.grownBy w' (some g)) ∧
      Hid (∃ cur' : Array Value, w'.heap[g]? = some (.cells cur' 38 (0, 0)) ∧ cur'.size = c * 5 ∧ ∀ j, j < (n + 1) * 5 → cur'[j]? = (flC Tone.cells (es.take k ++ t :: es.drop k))[j]?) := by
  obtain ⟨i0, hi0, hz0, hz1, hz2⟩ := info_parts info38
  have hcm : c ≤ 9223372036854775807 := by unfold maxLen at hc; omega
  have hgc : cur.size ≠ 0 := by omega
  obtain ⟨news, hnews⟩ : ∃ news, flC Tone.cells (es.drop k) = news := ⟨_, rfl⟩
  have hnl : news.length = (n - k) * 5 := by rw [← hnews, flC_len tone_len, List.length_drop, hn]
  have hget : ∀ (j : Nat) (u : Value), news[j]? = some u → cur[k * 5 + j]? = some u := by
    intro j u hu
    have hjl : j < (n - k) * 5 := by rw [← hnl]; exact (List.getElem?_eq_some_iff.1 hu).1
    rw [hx _ (by omega)]
    have e1 : flC Tone.cells es = flC Tone.cells (es.take k) ++ news := by rw [← hnews, ← flC_append, List.take_append_drop]
    have e2 : (flC Tone.cells (es.take k)).length = k * 5 := by rw [flC_len tone_len, List.length_take, Nat.min_eq_left (by omega)]
    rw [e1, List.getElem?_append_right (by rw [e2]; omega), e2, Nat.add_sub_cancel_left]
    exact hu
  have hov : ∀ lb cb, (callFunc 36 #[.slice (some ⟨vb, 0, none⟩) 1 1, .slice (some ⟨g, (k + 1) * 5, none⟩) lb cb]).run Try.prog w = .ok (.value (.bool false)) w := fun lb cb => overlaps_no hv hr hne hgc _ _ _ _ _
  -- the elements behind go one place up
  obtain ⟨W1, hW1⟩ : ∃ W1, w.drew.setCells g ((k + 1) * 5) news = W1 := ⟨_, rfl⟩
  obtain ⟨cur1, hr1, hs1, hg1, hgr1⟩ := setCells_row g 38 news ((k + 1) * 5) w.drew cur hr (by rw [hs, hnl]; omega)
  have hcp1 : ∀ ty, (Builtin.copy_ #[77, 77] ty #[.slice (some ⟨g, (k + 1) * 5, none⟩) (n + 1 - (k + 1)) (c - (k + 1)), .slice (some ⟨g, k * 5, none⟩) (n + 1 - k) (c - k)]).run Try.prog w.drew = .ok (goInt ((n - k : Nat) : Int)) W1 := by
    intro ty
    rw [← hW1]
    refine run_copyN w.drew 77 77 ty 38 i0 g ((k + 1) * 5) _ _ ⟨g, k * 5, none⟩ _ _ (n - k) news Try.underlying77 hi0 ?_ (by rw [hz1]; exact hnl) ?_ ?_ ?_ ?_
    · simp only [Nat.min_def]; split <;> omega
    · intro j u hu
      rw [Addr.add_lit]
      show w.cell? _ = _
      rw [cell_of hr]
      exact hget j u hu
    · intro j hj
      show (w.cell? _).isSome = true
      rw [cell_of hr, Array.getElem?_eq_getElem (by rw [hs]; omega)]
      rfl
    · intro j hj
      exact free_of (w := w.drew) hr _
    · rw [← hnews]; exact tone_one _
  rw [hW1] at hr1 hgr1
  -- the tone
  obtain ⟨W2, hW2⟩ : ∃ W2, W1.setCells g (k * 5) t.cells = W2 := ⟨_, rfl⟩
  obtain ⟨cur2, hr2, hs2, hg2, hgr2⟩ := setCells_row g 38 t.cells (k * 5) W1 cur1 hr1 (by rw [hs1, hs, tone_len]; omega)
  have hv1 : W1.heap[vb]? = some (.cells vcs 38 (0, 0)) := row_kept hgr1 (show w.drew.heap[vb]? = _ from hv) (by simp; exact hne)
  have hcp2 : ∀ ty, (Builtin.copy_ #[77, 30] ty #[.slice (some ⟨g, k * 5, none⟩) (n + 1 - k) (c - k), .slice (some ⟨vb, 0, none⟩) 1 1]).run Try.prog W1 = .ok (goInt 1) W2 := by
    intro ty
    rw [← hW2]
    refine run_copyN W1 77 30 ty 38 i0 g (k * 5) _ _ ⟨vb, 0, none⟩ _ _ 1 t.cells Try.underlying77 hi0 ?_ (by rw [hz1]; rfl) ?_ ?_ ?_ ?_
    · simp only [Nat.min_def]; split <;> omega
    · intro j u hu
      rw [Addr.add_lit, Nat.zero_add, cell_of hv1]
      exact hvt j u hu
    · intro j hj
      rw [tone_len] at hj
      rw [cell_of hr1, Array.getElem?_eq_getElem (by rw [hs1, hs]; omega)]
      rfl
    · intro j hj
      exact free_of hr1 _
    · intro u hu
      simp only [Tone.cells, List.mem_cons, List.not_mem_nil, or_false] at hu
      rcases hu with rfl | rfl | rfl | rfl | rfl <;> rfl
  rw [hW2] at hr2 hgr2
  have HGF : Hid (w.grownBy W2 (some g)) := grown_trans (grown_trans (grown_drew (grown_refl _ _)) hgr1) hgr2
  have HROW : Hid (∃ cur' : Array Value, W2.heap[g]? = some (.cells cur' 38 (0, 0)) ∧ cur'.size = c * 5 ∧ ∀ j, j < (n + 1) * 5 → cur'[j]? = (flC Tone.cells (es.take k ++ t :: es.drop k))[j]?) := by
    refine ⟨cur2, hr2, (hs2.trans hs1).trans hs, fun j hj => ?_⟩
    rw [ins_get hn (by omega), hnews, hg2 j, tone_len]
    by_cases h1 : j < k * 5
    · rw [if_pos h1, if_neg (by omega), hg1 j, if_neg (by omega)]
      exact hx j (by omega)
    · rw [if_neg h1]
      by_cases h2 : j < (k + 1) * 5
      · rw [if_pos h2, if_pos (by omega)]
      · rw [if_neg h2, if_neg (by omega), hg1 j, if_pos (by rw [hnl]; omega)]
  have e1 : ((1 : Int) == 0) = false := rfl
  have hkn2 : (k : Int) < (n : Int) := by omega
  have hkn3 : ((k : Int) == (n : Int)) = false := by rw [beq_eq_false_iff_ne]; omega
  have hrm2 : (n : Int) + 1 ≤ (c : Int) := by omega
  have ek : IntKind.i64.wrap ((k : Int) + 1) = (k : Int) + 1 := IntWalk.i64_in _ (by omega)
  have en : IntKind.i64.wrap ((n : Int) + 1) = (n : Int) + 1 := IntWalk.i64_in _ (by omega)
  have hp0 : (0 : Int) ≤ (k : Int) + 1 := by omega
  have hp2 : ((k : Int) + 1).toNat = k + 1 := by omega
  have hq0 : (0 : Int) ≤ (n : Int) + 1 := by omega
  have hq2 : ((n : Int) + 1).toNat = n + 1 := by omega
  have hb1 : ¬ c = k + 1 := by omega
  have hb2 : ¬ c = k := by omega
  have hb3 : (k : Int) + 1 ≤ (n : Int) + 1 := by omega
  have hb4 : (k : Int) ≤ (n : Int) + 1 := by omega
  clear hr hs hx hv hvt hne hgc hget hnews hnl hW1 hr1 hs1 hg1 hgr1 hW2 hr2 hs2 hg2 hgr2 hv1 hn hc
  go_enter Try.func35, Try.ntmps35
  go_wp2_with (simp only [hov])
  go_region_law (refine step_copy_run rfl _ _ 77 77 rfl _ _ (by simp [Act.eval, Act.put]) (by simp [Act.eval, Act.put]) (hcp1 _) ?_)
  go_wp2_with (at_builtin; refine wpList_copy_run _ rfl _ _ 77 30 rfl _ _ rfl rfl (hcp2 _) ?_)
  go_ret
  exact ⟨rfl, HGF.out, HROW.out⟩

set_option maxHeartbeats 4000000 in
set_option maxRecDepth 100000 in
/-- There is no room, and it is not the last one: a new row. -/
theorem ins_full (g n k vb : Nat) (cur vcs : Array Value) (es : List Tone) (t : Tone) (w : World) (hn : es.length = n) (hkn : k < n) (hbig : n ≤ 1099511627776) (hr : w.heap[g]? = some (.cells cur 38 (0, 0))) (hs : cur.size = n * 5) (hx : ∀ j : Nat, j < n * 5 → cur[j]? = (flC Tone.cells es)[j]?)
    (hv : w.heap[vb]? = some (.cells vcs 38 (0, 0))) (hvt : ∀ (j : Nat) (u : Value), t.cells[j]? = some u → vcs[j]? = some u) :
    Calls Try.prog 35 #[.slice (some ⟨g, 0, none⟩) n n, .int .i64 (k : Int), .slice (some ⟨vb, 0, none⟩) 1 1] w fun e w' => ∃ G, e = .returned (.slice (some ⟨w.heap.size, 0, none⟩) (n + 1) G) ∧ Hid (w.grownBy w' none) ∧
      Hid (n + 1 ≤ G ∧ G ≤ maxLen ∧ ∃ cur' : Array Value, w'.heap[w.heap.size]? = some (.cells cur' 38 (0, 0)) ∧ cur'.size = G * 5 ∧ ∀ j, j < (n + 1) * 5 → cur'[j]? = (flC Tone.cells (es.take k ++ t :: es.drop k))[j]?) := by
  obtain ⟨i0, hi0, hz0, hz1, hz2⟩ := info_parts info38
  have hgw : g < w.heap.size := lt_of hr
  have hvw : vb < w.heap.size := lt_of hv
  obtain ⟨news, hnews⟩ : ∃ news, flC Tone.cells (es.drop k) = news := ⟨_, rfl⟩
  have hnl : news.length = (n - k) * 5 := by rw [← hnews, flC_len tone_len, List.length_drop, hn]
  obtain ⟨olds, holds⟩ : ∃ olds, flC Tone.cells (es.take k) = olds := ⟨_, rfl⟩
  have hol : olds.length = k * 5 := by rw [← holds, flC_len tone_len, List.length_take, Nat.min_eq_left (by omega)]
  have hsp : flC Tone.cells es = olds ++ news := by rw [← holds, ← hnews, ← flC_append, List.take_append_drop]
  have hgo : ∀ (j : Nat) (u : Value), olds[j]? = some u → cur[j]? = some u := by
    intro j u hu
    have hjl : j < k * 5 := by rw [← hol]; exact (List.getElem?_eq_some_iff.1 hu).1
    rw [hx _ (by omega), hsp, List.getElem?_append_left (by omega)]
    exact hu
  have hget : ∀ (j : Nat) (u : Value), news[j]? = some u → cur[k * 5 + j]? = some u := by
    intro j u hu
    have hjl : j < (n - k) * 5 := by rw [← hnl]; exact (List.getElem?_eq_some_iff.1 hu).1
    rw [hx _ (by omega), hsp, List.getElem?_append_right (by omega), hol, Nat.add_sub_cancel_left]
    exact hu
  obtain ⟨h, hh⟩ : ∃ h, w.heap.size = h := ⟨_, rfl⟩
  obtain ⟨G, hG⟩ : ∃ G, grownCap w (n + 1) n 38 = G := ⟨_, rfl⟩
  have hG1 : n + 1 ≤ G := by rw [← hG]; exact grownCap_ge w (n + 1) n 38
  have hG2 : G ≤ maxLen := by rw [← hG]; exact grownCap_le_maxLen w (n + 1) n 38 (by unfold maxLen; omega)
  have hG3 : G ≤ 9223372036854775807 := by unfold maxLen at hG2; omega
  obtain ⟨ROW, hROW⟩ : ∃ ROW : Array Value, olds.toArray ++ Builtin.zeroCells (Value.agg #[.int .i64 0, .int .i64 0, .int .i64 0, .int .i64 0, .int .i64 0]).cells (n + 1 - k) ++ Builtin.zeroCells (Value.agg #[.int .i64 0, .int .i64 0, .int .i64 0, .int .i64 0, .int .i64 0]).cells (G - (n + 1)) = ROW := ⟨_, rfl⟩
  have hRs : ROW.size = G * 5 := by
    rw [← hROW]
    simp only [Array.size_append, List.size_toArray, size_zeroCells, hol]
    have : (Value.agg #[.int .i64 0, .int .i64 0, .int .i64 0, .int .i64 0, .int .i64 0]).cells.size = 5 := rfl
    rw [this]
    omega
  have hRo : ∀ j : Nat, j < k * 5 → ROW[j]? = olds[j]? := by
    intro j hj
    rw [← hROW, Array.getElem?_append_left (by simp [hol]; omega), Array.getElem?_append_left (by simp [hol]; omega)]
    simp
  obtain ⟨W1, hW1⟩ : ∃ W1, w.drew.alloc (.cells ROW 38) = W1 := ⟨_, rfl⟩
  have hrz : ∀ ty, (Builtin.append_ #[77, 3] ty #[.slice (some ⟨g, 0, none⟩) k n, .int .i64 ((n + 1 - k : Nat) : Int)]).run Try.prog w = .ok (.slice (some ⟨h, 0, none⟩) (n + 1) G) W1 := by
    intro ty
    have hold : (Builtin.firstCells i0.size k (.slice (some ⟨g, 0, none⟩) k n)).run Try.prog w.drew = .ok olds.toArray w.drew := by
      rw [hz1]
      exact run_firstCells_some w.drew 5 k ⟨g, 0, none⟩ k n olds hol (fun j v hj => by
        rw [Addr.add_lit, Nat.zero_add]
        show w.cell? _ = _
        rw [cell_of hr]
        exact hgo j v hj)
    have hz := Lib.run_append_grow_zeros w 77 3 ty 38 i0 _ .i64 .i64 Try.underlying77 Try.underlying3 hi0 hz0 (some ⟨g, 0, none⟩) k n olds hold (n + 1 - k) (by omega) (by omega) (by omega) (by omega) (by rw [hz2]; omega) (by rw [hz2, show k + (n + 1 - k) = n + 1 from by omega]; exact growslice_fits (by omega) (by omega))
    rw [show k + (n + 1 - k) = n + 1 from by omega, hG, hROW, hW1, hh] at hz
    exact hz
  have hr1 : W1.heap[h]? = some (.cells ROW 38 (0, 0)) := by rw [← hW1, ← hh]; exact heap_alloc_new w.drew _
  have hg1 : w.grownBy W1 none := by rw [← hW1]; exact grown_alloc (grown_drew (grown_refl _ _)) _
  have hv1 := row_kept hg1 hv (by simp)
  have hgr1 := row_kept hg1 hr (by simp)
  obtain ⟨W2, hW2⟩ : ∃ W2, W1.setCells h (k * 5) t.cells = W2 := ⟨_, rfl⟩
  obtain ⟨cur2, hr2, hs2, hg2, hgr2⟩ := setCells_row h 38 t.cells (k * 5) W1 ROW hr1 (by rw [hRs, tone_len]; omega)
  have hcp2 : ∀ ty, (Builtin.copy_ #[77, 30] ty #[.slice (some ⟨h, k * 5, none⟩) (n + 1 - k) (G - k), .slice (some ⟨vb, 0, none⟩) 1 1]).run Try.prog W1 = .ok (goInt 1) W2 := by
    intro ty
    rw [← hW2]
    refine run_copyN W1 77 30 ty 38 i0 h (k * 5) _ _ ⟨vb, 0, none⟩ _ _ 1 t.cells Try.underlying77 hi0 ?_ (by rw [hz1]; rfl) ?_ ?_ ?_ ?_
    · simp only [Nat.min_def]; split <;> omega
    · intro j u hu
      rw [Addr.add_lit, Nat.zero_add, cell_of hv1]
      exact hvt j u hu
    · intro j hj
      rw [tone_len] at hj
      rw [cell_of hr1, Array.getElem?_eq_getElem (by rw [hRs]; omega)]
      rfl
    · intro j hj
      exact free_of hr1 _
    · intro u hu
      simp only [Tone.cells, List.mem_cons, List.not_mem_nil, or_false] at hu
      rcases hu with rfl | rfl | rfl | rfl | rfl <;> rfl
  rw [hW2] at hr2 hgr2
  have hgh : g ≠ h := by omega
  have hgr2' : W2.heap[g]? = some (.cells cur 38 (0, 0)) := row_kept hgr2 hgr1 (by simp; exact hgh)
  obtain ⟨W3, hW3⟩ : ∃ W3, W2.drew.setCells h ((k + 1) * 5) news = W3 := ⟨_, rfl⟩
  obtain ⟨cur3, hr3, hs3, hg3, hgr3⟩ := setCells_row h 38 news ((k + 1) * 5) W2.drew cur2 hr2 (by rw [hs2, hRs, hnl]; omega)
  have hcp3 : ∀ ty, (Builtin.copy_ #[77, 77] ty #[.slice (some ⟨h, (k + 1) * 5, none⟩) (n + 1 - (k + 1)) (G - (k + 1)), .slice (some ⟨g, k * 5, none⟩) (n - k) (n - k)]).run Try.prog W2.drew = .ok (goInt ((n - k : Nat) : Int)) W3 := by
    intro ty
    rw [← hW3]
    refine run_copyN W2.drew 77 77 ty 38 i0 h ((k + 1) * 5) _ _ ⟨g, k * 5, none⟩ _ _ (n - k) news Try.underlying77 hi0 ?_ (by rw [hz1]; exact hnl) ?_ ?_ ?_ ?_
    · simp only [Nat.min_def]; split <;> omega
    · intro j u hu
      rw [Addr.add_lit]
      show W2.cell? _ = _
      rw [cell_of hgr2']
      exact hget j u hu
    · intro j hj
      show (W2.cell? _).isSome = true
      rw [cell_of hr2, Array.getElem?_eq_getElem (by rw [hs2, hRs]; omega)]
      rfl
    · intro j hj
      exact free_of (w := W2.drew) hr2 _
    · rw [← hnews]; exact tone_one _
  rw [hW3] at hr3 hgr3
  have HGF : Hid (w.grownBy W3 none) := grown_from (grown_from hg1 hgr2 (.inl (by omega))) (grown_trans (grown_drew (grown_refl _ _)) hgr3) (.inl (by omega))
  have HROW : Hid (n + 1 ≤ G ∧ G ≤ maxLen ∧ ∃ cur' : Array Value, W3.heap[w.heap.size]? = some (.cells cur' 38 (0, 0)) ∧ cur'.size = G * 5 ∧ ∀ j, j < (n + 1) * 5 → cur'[j]? = (flC Tone.cells (es.take k ++ t :: es.drop k))[j]?) := by
    refine ⟨hG1, hG2, cur3, by rw [hh]; exact hr3, (hs3.trans hs2).trans hRs, fun j hj => ?_⟩
    rw [ins_get hn (by omega), hnews, hg3 j]
    by_cases h1 : j < k * 5
    · rw [if_pos h1, if_neg (by omega), hg2 j, if_neg (by omega), hRo j h1, hsp, List.getElem?_append_left (by omega)]
    · rw [if_neg h1]
      by_cases h2 : j < (k + 1) * 5
      · rw [if_pos h2, if_neg (by omega), hg2 j, if_pos (by rw [tone_len]; omega)]
      · rw [if_neg h2, if_pos (by rw [hnl]; omega)]
  have HH := Lib.hid hh
  have hkn2 : (k : Int) < (n : Int) := by omega
  have hkn3 : ((k : Int) == (n : Int)) = false := by rw [beq_eq_false_iff_ne]; omega
  have ek : IntKind.i64.wrap ((k : Int) + 1) = (k : Int) + 1 := IntWalk.i64_in _ (by omega)
  have en : IntKind.i64.wrap ((n : Int) + 1) = (n : Int) + 1 := IntWalk.i64_in _ (by omega)
  have enk : IntKind.i64.wrap ((n : Int) + 1 - (k : Int)) = ((n + 1 - k : Nat) : Int) := by rw [IntWalk.i64_in _ (by omega)]; omega
  have hp0 : (0 : Int) ≤ (k : Int) + 1 := by omega
  have hp2 : ((k : Int) + 1).toNat = k + 1 := by omega
  have hb1 : ¬ G = k + 1 := by omega
  have hb2 : ¬ G = k := by omega
  have hb3 : (k : Int) + 1 ≤ (n : Int) + 1 := by omega
  have hb4 : (k : Int) ≤ (n : Int) + 1 := by omega
  have hb5 : ¬ n = k := by omega
  have hb6 : (k : Int) ≤ (n : Int) := by omega
  rw [hh]
  clear hr hs hx hv hvt hget hnews hnl hW1 hr1 hg1 hgr1 hW2 hr2 hs2 hg2 hgr2 hv1 hn hgo hsp hol holds hRs hRo hROW hgr2' hW3 hr3 hs3 hg3 hgr3 hh hG hG2 hgw hvw hgh
  go_enter Try.func35, Try.ntmps35
  go_upto_region 9 with fail
  go_wp2_with (first | (at_builtin; refine Lib.wpList_append_run _ rfl _ _ 77 3 rfl _ _ rfl rfl _ _ (hrz _) ?_) | (at_builtin; refine wpList_copy_run _ rfl _ _ 77 30 rfl _ _ rfl rfl (hcp2 _) ?_))
  go_region_law (refine step_copy_run rfl _ _ 77 77 rfl _ _ (by simp [Act.eval, Act.put]) (by simp [Act.eval, Act.put]) (hcp3 _) ?_)
  go_wp2_with fail
  go_ret
  exact ⟨G, rfl, HGF.out, by have := HROW.out; rw [HH.out] at this; exact this⟩

/-- The second type counts for nothing, if it is a slice's. -/
theorem append_types {P : Program} {t t' ty e e' : TypeId} (h : P.underlying t = some (.slice e)) (h' : P.underlying t' = some (.slice e')) (base : Option Addr) (n c : Nat) (x : Value) (w : World) :
    (Builtin.append_ #[t, t'] ty #[.slice base n c, x]).run P w = (Builtin.append_ #[t, t] ty #[.slice base n c, x]).run P w := by
  simp [Builtin.append_, run_underlying h, run_underlying h', sizeOf, typeInfo]

theorem append_v {ops : Array Oper} {rest : List Oper} {o : Oper} {a : Act} {Q : Exit → Act → World → Prop} (hgd : o.guard = none) (s x : Operand)
    (ho : o.op = .call { callee := .builtin .append, args := #[s, x], argTypes := #[77, 30] }) (B : Nat) (v : Value) (Y : List Tone) (w : World) (vb : Nat) (t : Tone)
    (hs : a.eval s = v) (hown : w.ownsRow B 38 5 v Y.length (flC Tone.cells Y)) (hx : a.eval x = .slice (some ⟨vb, 0, none⟩) 1 1) (hil : Tos w (.slice (some ⟨vb, 0, none⟩) 1 1) [t]) (hm : Y.length ≤ 1099511627775) (hB : B ≤ w.heap.size)
    (h : ∀ v' w', Hid (w'.ownsRow B 38 5 v' (Y.length + 1) (flC Tone.cells (Y ++ [t]))) → Hid (w.grownBy w' v.ownBlock) → wpList Try.prog ops Q rest (a.put o.dst v') w') :
    wpList Try.prog ops Q (o :: rest) a w := by
  obtain ⟨i0, hi, hz0, hz1, hz2⟩ := info_parts info38
  obtain ⟨v', w', hr, h2, h3, _, _⟩ := run_append_own_at (P := Try.prog) w B 77 o.type 38 i0 (.agg #[.int .i64 0, .int .i64 0, .int .i64 0, .int .i64 0, .int .i64 0]) 5 40 Try.underlying77 hi hz0 hz1 hz2 rfl (by decide) v Y.length (flC Tone.cells Y) hown ⟨vb, 0, none⟩ 1 1 t.cells rfl (by
      intro j u hu
      obtain ⟨b, off, hh, _, hrg⟩ := sla_at hil (i := 0) (x := t) rfl
      simp only [Option.some.injEq, Addr.mk.injEq, and_true] at hh
      obtain ⟨rfl, rfl⟩ := hh
      rw [Addr.add_lit]
      have := hrg j u hu
      simpa using this) (by
      intro u hu
      simp only [Tone.cells, List.mem_cons, List.not_mem_nil, or_false] at hu
      rcases hu with rfl | rfl | rfl | rfl | rfl <;> rfl) (by unfold maxLen; omega) (by omega) hB
  obtain ⟨vao, vc, rfl⟩ := own_slice hown
  rw [← append_types Try.underlying77 Try.underlying30] at hr
  refine Lib.wpList_append_run w hgd s x 77 30 ho _ _ hs hx v' w' hr (h v' w' ?_ h3)
  unfold Hid
  have e : flC Tone.cells (Y ++ [t]) = flC Tone.cells Y ++ t.cells := by rw [flC_append]; simp [flC]
  rw [e]
  exact h2

set_option maxHeartbeats 4000000 in
set_option maxRecDepth 100000 in
/-- Behind all. -/
theorem ins_end (B : Nat) (ao : Option Addr) (c n vb : Nat) (vcs : Array Value) (es : List Tone) (t : Tone) (w : World) (hn : es.length = n) (hbig : n ≤ 1099511627775) (hB : B ≤ w.heap.size) (hown : w.ownsRow B 38 5 (.slice ao n c) n (flC Tone.cells es))
    (hv : w.heap[vb]? = some (.cells vcs 38 (0, 0))) (hvt : ∀ (j : Nat) (u : Value), t.cells[j]? = some u → vcs[j]? = some u) :
    Calls Try.prog 35 #[.slice ao n c, .int .i64 (n : Int), .slice (some ⟨vb, 0, none⟩) 1 1] w fun e w' => ∃ v', e = .returned v' ∧ Hid (w'.ownsRow B 38 5 v' (n + 1) (flC Tone.cells (es ++ [t]))) ∧ Hid (w.grownBy w' (Value.slice ao n c).ownBlock) := by
  have HTS : Hid (Tos w (.slice (some ⟨vb, 0, none⟩) 1 1) [t]) := by
    refine .inl ⟨vb, 0, 1, trivial, rfl, fun i x hx j u hu => ?_⟩
    match i, hx with
    | 0, hx =>
      simp at hx
      subst hx
      have := cell_of hv j
      simp only [Nat.zero_mul, Nat.zero_add]
      rw [this]
      exact hvt j u hu
    | i + 1, hx => simp at hx
  have HN := Lib.hid hn
  have HOWN : Hid (w.ownsRow B 38 5 (.slice ao n c) es.length (flC Tone.cells es)) := by unfold Hid; rw [hn]; exact hown
  have hnc : n ≤ c ∧ c ≤ 9223372036854775807 ∧ (ao = none → n = 0) ∧ (∀ a, ao = some a → ∃ g, a = ⟨g, 0, none⟩) := by
    rcases hown.2 with ⟨h, h0⟩ | ⟨g, cap, cur, h, _, _, h1, h2, _⟩
    · simp only [Value.slice.injEq] at h
      obtain ⟨rfl, rfl, rfl⟩ := h
      exact ⟨Nat.le_refl _, by omega, (fun _ => rfl), (fun a h => by cases h)⟩
    · simp only [Value.slice.injEq] at h
      obtain ⟨rfl, _, rfl⟩ := h
      exact ⟨h1, by unfold maxLen at h2; omega, (fun h => by cases h), (fun a h => by cases h; exact ⟨g, rfl⟩)⟩
  obtain ⟨hnc1, hnc2, hnc3, hnc4⟩ := hnc
  have hnn : (n : Int) ≤ (c : Int) := by omega
  clear hown hv hvt hn
  cases ao with
  | none =>
    obtain rfl := hnc3 rfl
    go_enter Try.func35, Try.ntmps35
    go_wp2_with (at_builtin; refine append_v rfl (.tmp 23) (.tmp 24) rfl B (.slice none 0 c) es w vb t rfl HOWN.out rfl HTS.out (by rw [HN.out]; omega) hB ?_; intro v2 w2 h2 hg2)
    go_ret
    exact ⟨_, rfl, by have := h2.out; rw [HN.out] at this; exact this, hg2.out⟩
  | some a =>
    obtain ⟨g, rfl⟩ := hnc4 a rfl
    go_enter Try.func35, Try.ntmps35
    go_upto_region 7 with fail
    go_wp2_with (at_builtin; refine append_v rfl (.tmp 23) (.tmp 24) rfl B (.slice (some ⟨g, 0, none⟩) n c) es w vb t rfl HOWN.out rfl HTS.out (by rw [HN.out]; omega) hB ?_; intro v2 w2 h2 hg2)
    all_goals
      go_ret
      exact ⟨_, rfl, by have := h2.out; rw [HN.out] at this; exact this, hg2.out⟩

/-- All ways. -/
theorem ins_calls (B : Nat) (ao : Option Addr) (c n k vb : Nat) (vcs : Array Value) (es : List Tone) (t : Tone) (w : World) (hn : es.length = n) (hk : k ≤ n) (hbig : n ≤ 1099511627775) (hB : B ≤ w.heap.size) (hown : w.ownsRow B 38 5 (.slice ao n c) n (flC Tone.cells es))
    (hv : w.heap[vb]? = some (.cells vcs 38 (0, 0))) (hvt : ∀ (j : Nat) (u : Value), t.cells[j]? = some u → vcs[j]? = some u) (hne : (Value.slice ao n c).ownBlock ≠ some vb) :
    Calls Try.prog 35 #[.slice ao n c, .int .i64 (k : Int), .slice (some ⟨vb, 0, none⟩) 1 1] w fun e w' => ∃ v', e = .returned v' ∧ Hid (w'.ownsRow B 38 5 v' (n + 1) (flC Tone.cells (es.take k ++ t :: es.drop k))) ∧ Hid (w.grownBy w' (Value.slice ao n c).ownBlock) := by
  have hl : (flC Tone.cells (es.take k ++ t :: es.drop k)).length = (n + 1) * 5 := by
    rw [flC_len tone_len, List.length_append, List.length_cons, List.length_take, List.length_drop]
    congr 1
    omega
  by_cases he : k = n
  · subst he
    have e1 : es.take k ++ t :: es.drop k = es ++ [t] := by rw [List.take_of_length_le (by omega), List.drop_eq_nil_of_le (by omega)]
    rw [e1]
    exact ins_end B ao c k vb vcs es t w hn hbig hB hown hv hvt
  · obtain ⟨g, cur, rfl, hBg, hr, hnc, hcm, hs, hx⟩ := own_row hown (by omega)
    have hvg : vb ≠ g := fun e => hne (by rw [e]; rfl)
    by_cases hc : n + 1 ≤ c
    · refine (ins_room g c n k vb cur vcs es t w hn (by omega) hc hcm hr hs hx hv hvt hvg).mono ?_
      rintro e w' ⟨rfl, hg, hrow⟩
      obtain ⟨cur', h1, h2, h3⟩ := hrow.out
      exact ⟨_, rfl, own_of_row hBg h1 hc hcm h2 hl h3, hg⟩
    · obtain rfl : c = n := by omega
      refine (ins_full g c k vb cur vcs es t w hn (by omega) (by omega) hr hs hx hv hvt).mono ?_
      rintro e w' ⟨G, rfl, hg, hrow⟩
      obtain ⟨g1, g2, cur', h1, h2, h3⟩ := hrow.out
      exact ⟨_, rfl, own_of_row hB h1 g1 g2 h2 hl h3, grown_none hg.out _⟩

end Go.Proofs.Ytdnmimfichijgaa.KIns
