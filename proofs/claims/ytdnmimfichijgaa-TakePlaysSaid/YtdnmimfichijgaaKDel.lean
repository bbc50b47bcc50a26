/- Delete of one tone: the walk. -/
import Derived.Test.YtdnmimfichijgaaKClone
import Derived.Deep.RegionLaw
namespace Go.Proofs.Ytdnmimfichijgaa.KDel
open Go Go.RowKit Go.Proofs.Ytdnmimfichijgaa.KMod Go.Proofs.Ytdnmimfichijgaa.KRead Go.Proofs.Ytdnmimfichijgaa.KLess Go.Proofs.Ytdnmimfichijgaa.KCells Go.Proofs.Ytdnmimfichijgaa.KClone Go.Proofs.Ytdnmimfichijgaa.Opn Go.Proofs.Ytdnmimfichijgaa.Hp Go.Proofs.Ytdnmimfichijgaa.Rd
set_option linter.unusedVariables false
set_option linter.unusedSimpArgs false

theorem zero38 (w : World) : (zeroValue 38).run Try.prog w = .ok (.agg #[.int .i64 0, .int .i64 0, .int .i64 0, .int .i64 0, .int .i64 0]) w := by kernel_rfl

theorem zeros1 : (Builtin.zeroCells (Value.agg #[.int .i64 0, .int .i64 0, .int .i64 0, .int .i64 0, .int .i64 0]).cells 1).toList = [.int .i64 0, .int .i64 0, .int .i64 0, .int .i64 0, .int .i64 0] := by kernel_rfl

set_option maxHeartbeats 4000000 in
set_option maxRecDepth 100000 in
theorem del_calls (g c n i : Nat) (cur : Array Value) (es : List Tone) (w : World) (hn : es.length = n) (hin : i < n) (hnc : n ≤ c) (hc : c ≤ maxLen) (hr : w.heap[g]? = some (.cells cur 38 (0, 0))) (hs : cur.size = c * 5) (hx : ∀ j, j < n * 5 → cur[j]? = (flC Tone.cells es)[j]?) :
    Calls Try.prog 32 #[.slice (some ⟨g, 0, none⟩) n c, .int .i64 (i : Int), .int .i64 ((i : Int) + 1)] w fun e w' => e = .returned (.slice (some ⟨g, 0, none⟩) (n - 1) c) ∧ Hid (w.grownBy w' (some g)) ∧
      Hid (∃ cur' : Array Value, w'.heap[g]? = some (.cells cur' 38 (0, 0)) ∧ cur'.size = c * 5 ∧ ∀ j, j < (n - 1) * 5 → cur'[j]? = (flC Tone.cells (es.eraseIdx i))[j]?) := by
  obtain ⟨i0, hi0, hz0, hz1, hz2⟩ := info_parts info38
  have hcm : c ≤ 9223372036854775807 := by unfold maxLen at hc; omega
  have hcm2 : (c : Int) ≤ 9223372036854775807 := by omega
  have hni : (i : Int) + 1 ≤ (n : Int) := by omega
  have hnc2 : (n : Int) ≤ (c : Int) := by omega
  have hp0 : (0 : Int) ≤ (i : Int) + 1 := by omega
  have hp2 : ((i : Int) + 1).toNat = i + 1 := by omega
  have hij : ((i : Int) == (i : Int) + 1) = false := by rw [beq_eq_false_iff_ne]; omega
  obtain ⟨news, hnews⟩ : ∃ news, flC Tone.cells (es.drop (i + 1)) = news := ⟨_, rfl⟩
  have hnl : news.length = (n - (i + 1)) * 5 := by rw [← hnews, flC_len tone_len, List.length_drop, hn]
  have hfl : (flC Tone.cells es) = flC Tone.cells (es.take i) ++ (flC Tone.cells (es.drop i)) := by rw [← flC_append, List.take_append_drop]
  have hget : ∀ j u, news[j]? = some u → cur[(i + 1) * 5 + j]? = some u := by
    intro j u hu
    have hjl : j < (n - (i + 1)) * 5 := by rw [← hnl]; exact (List.getElem?_eq_some_iff.1 hu).1
    rw [hx _ (by omega)]
    have e1 : flC Tone.cells es = flC Tone.cells (es.take (i + 1)) ++ news := by rw [← hnews, ← flC_append, List.take_append_drop]
    have e2 : (flC Tone.cells (es.take (i + 1))).length = (i + 1) * 5 := by rw [flC_len tone_len, List.length_take, Nat.min_eq_left (by omega)]
    rw [e1, List.getElem?_append_right (by rw [e2]; omega), e2, Nat.add_sub_cancel_left]
    exact hu
  obtain ⟨A, hA, hsrc⟩ : ∃ A : Addr, (if c = i + 1 then (⟨g, 0, none⟩ : Addr) else ⟨g, (i + 1) * 5, none⟩) = A ∧ Hid (∀ j u, news[j]? = some u → w.drew.cell? (A.add j) = some u) := by
    by_cases h : c = i + 1
    · refine ⟨⟨g, 0, none⟩, if_pos h, fun j u hu => ?_⟩
      have : j < (n - (i + 1)) * 5 := by rw [← hnl]; exact (List.getElem?_eq_some_iff.1 hu).1
      omega
    · refine ⟨⟨g, (i + 1) * 5, none⟩, if_neg h, fun j u hu => ?_⟩
      rw [Addr.add_lit]
      show w.cell? _ = _
      rw [cell_of hr]
      exact hget j u hu
  have s1 : Hid (news.length = (n - (i + 1)) * 5) := hnl
  have s2 : Hid (∀ u ∈ news, u.oneCell' = true) := by unfold Hid; rw [← hnews]; exact tone_one _
  have s3 : Hid (∀ j, j < news.length → (w.drew.cell? ⟨g, 0 + i * 5 + j, none⟩).isSome = true ∧ w.drew.frozen? ⟨g, 0 + i * 5 + j, none⟩ = false) := by
    intro j hj
    refine ⟨?_, free_of (w := w.drew) hr _⟩
    show (w.cell? _).isSome = true
    rw [cell_of hr, Array.getElem?_eq_getElem (by rw [hs]; omega)]
    rfl
  obtain ⟨W1, hW1⟩ : ∃ W1, w.drew.setCells g (0 + i * 5) news = W1 := ⟨_, rfl⟩
  obtain ⟨cur1, hr1, hs1, hg1, hgr1⟩ := setCells_row g 38 news (0 + i * 5) w.drew cur hr (by rw [hs]; omega)
  rw [hW1] at hr1 hgr1
  have HW : Hid (w.drew.setCells g (0 + i * 5) news = W1) := hW1
  have HR1 := Lib.hid hr1
  have HG1 := Lib.hid hg1
  have HGR1 : Hid (w.grownBy W1 (some g)) := grown_trans (grown_drew (grown_refl _ _)) hgr1
  have HX := Lib.hid hx
  have HR := Lib.hid hr
  have HSZ : Hid (cur1.size = c * 5) := hs1.trans hs
  have HGET := Lib.hid hget
  have HES := Lib.hid hnews
  have HN := Lib.hid hn
  clear hfl hnews hnl hget hr hr1 hg1 hgr1 hW1 hx hs hs1 hn
  have hA2 := Lib.hid hA
  have hic : i ≤ c := by omega
  have hjc : i + 1 ≤ c := by omega
  clear hA
  have hnn : i + (n - (i + 1)) = n - 1 := by omega
  have HEQ := Lib.hid hnn
  obtain ⟨zs, hzs⟩ : ∃ zs, (Builtin.zeroCells (Value.agg #[.int .i64 0, .int .i64 0, .int .i64 0, .int .i64 0, .int .i64 0]).cells 1).toList = zs := ⟨_, rfl⟩
  have hzl : zs.length = 5 := by rw [← hzs, zeros1]; rfl
  obtain ⟨W2, hW2⟩ : ∃ W2, W1.setCells g ((n - 1) * 5) zs = W2 := ⟨_, rfl⟩
  obtain ⟨cur2, hr2, hs2, hg2, hgr2⟩ := setCells_row g 38 zs ((n - 1) * 5) W1 cur1 HR1.out (by rw [hzl]; have := HSZ.out; unfold Hid at this; omega)
  have hclg : ∀ ty c', (Builtin.clear_ #[77] ty #[.slice (some ⟨g, (n - 1) * 5, none⟩) 1 c']).run Try.prog W1 = .ok (.tuple #[]) W2 := by
    intro ty c'
    rw [← hW2, ← hzs]
    refine run_clearN 1 W1 77 38 ty _ Try.underlying77 zero38 ?_ g ((n - 1) * 5) _ (by omega) ?_ ?_
    · intro v hv
      have : v = .int .i64 0 := by
        have : ∀ v ∈ (Builtin.zeroCells (Value.agg #[.int .i64 0, .int .i64 0, .int .i64 0, .int .i64 0, .int .i64 0]).cells 1).toList, v = .int .i64 0 := by
          intro v hv
          rw [zeros1] at hv
          simpa using hv
        exact this v hv
      rw [this]; rfl
    · intro j hj
      rw [hzs, hzl] at hj
      rw [cell_of HR1.out, Array.getElem?_eq_getElem (by have := HSZ.out; unfold Hid at this; omega)]
      rfl
    · intro j hj
      exact free_of HR1.out _
  have hcl : ∀ ty, (Builtin.clear_ #[77] ty #[.slice (some ⟨g, (i + (n - (i + 1))) * 5, none⟩) (n - (i + (n - (i + 1)))) (c - (i + (n - (i + 1))))]).run Try.prog W1 = .ok (.tuple #[]) W2 := by
    intro ty
    rw [hnn, show n - (n - 1) = 1 from by omega]
    exact hclg ty _
  have HCLG := Lib.hid hclg
  clear hclg
  rw [hW2] at hr2 hgr2
  have HGF : Hid (w.grownBy W2 (some g)) := grown_trans HGR1.out hgr2
  have HROW : Hid (∃ cur' : Array Value, W2.heap[g]? = some (.cells cur' 38 (0, 0)) ∧ cur'.size = c * 5 ∧ ∀ j, j < (n - 1) * 5 → cur'[j]? = (flC Tone.cells (es.eraseIdx i))[j]?) := by
    refine ⟨cur2, hr2, hs2.trans HSZ.out, fun j hj => ?_⟩
    rw [hg2 j, if_neg (by omega), HG1.out j]
    have e0 : es.eraseIdx i = es.take i ++ es.drop (i + 1) := List.eraseIdx_eq_take_drop_succ es i
    have e1 : flC Tone.cells (es.eraseIdx i) = flC Tone.cells (es.take i) ++ news := by rw [e0, flC_append, HES.out]
    have e2 : (flC Tone.cells (es.take i)).length = i * 5 := by rw [flC_len tone_len, List.length_take, Nat.min_eq_left (by have := HN.out; unfold Hid at this; omega)]
    have e3 : flC Tone.cells es = flC Tone.cells (es.take i) ++ flC Tone.cells (es.drop i) := by rw [← flC_append, List.take_append_drop]
    rw [e1]
    by_cases hji : j < i * 5
    · rw [if_neg (by omega), List.getElem?_append_left (by rw [e2]; exact hji), HX.out j (by omega), e3, List.getElem?_append_left (by rw [e2]; exact hji)]
    · rw [if_pos (by rw [s1.out]; omega), List.getElem?_append_right (by rw [e2]; omega), e2]
      congr 1
      omega
  clear hr2 hs2 hg2 hgr2 hnn hW2 hzs hzl
  go_enter Try.func32, Try.ntmps32
  go_wp2_with fail
  by_cases hcj : c = i + 1
  · have hAA : A = ⟨g, 0, none⟩ := by rw [← hA2.out, if_pos hcj]
    subst hAA
    have hii : (i : Int) ≤ (i : Int) + 1 := by omega
    obtain rfl : n = i + 1 := by omega
    subst hcj
    clear hcl
    have hcl : ∀ ty c', (Builtin.clear_ #[77] ty #[.slice (some ⟨g, i * 5, none⟩) 1 c']).run Try.prog W1 = .ok (.tuple #[]) W2 := HCLG.out
    have hi1 : i + 1 - i = 1 := by omega
    have s0 : Hid (news.length = 0 * 5) := by unfold Hid; have := s1.out; simpa using this
    go_region_law (refine step_append_room rfl (.tmp 22) (.tmp 25) 77 rfl 38 i0 5 Try.underlying77 hi0 hz1 g 0 i (i + 1) (by simp [Act.eval, Act.put]) ⟨g, 0, none⟩ 0 0 news (by simp [Act.eval, Act.put]) s0.out hsrc.out s2.out (by omega) s3.out ?_; rw [HW.out])
    go_wp2_with (simp only [hcl])
    go_ret
    exact ⟨rfl, HGF.out, HROW.out⟩
  · have hAA : A = ⟨g, (i + 1) * 5, none⟩ := by rw [← hA2.out, if_neg hcj]
    subst hAA
    go_region_law (refine step_append_room rfl (.tmp 22) (.tmp 25) 77 rfl 38 i0 5 Try.underlying77 hi0 hz1 g 0 i c (by simp [Act.eval, Act.put]) ⟨g, (i + 1) * 5, none⟩ (n - (i + 1)) (c - (i + 1)) news (by simp [Act.eval, Act.put]) s1.out hsrc.out s2.out (by omega) s3.out ?_; rw [HW.out])
    go_wp2_with (simp only [hcl])
    go_ret
    exact ⟨by rw [HEQ.out]; rfl, HGF.out, HROW.out⟩
end Go.Proofs.Ytdnmimfichijgaa.KDel
