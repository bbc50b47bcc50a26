/- ended: the walk. -/
import Derived.Test.YthdohdllpaijhaaRTab
import Derived.Test.YthdohdllpaijhaaRCheck
import Derived.Test.YthdohdllpaijhaaRFind
namespace Go.Proofs.Ythdohdllpaijhaa.REnd
open Go Go.RowKit Go.Proofs.Ythdohdllpaijhaa.RMod Go.Proofs.Ythdohdllpaijhaa.RTab Go.Proofs.Ythdohdllpaijhaa.RCheck Go.Proofs.Ythdohdllpaijhaa.RAlone Go.Proofs.Ythdohdllpaijhaa.Hp Go.Proofs.Ythdohdllpaijhaa.Rd
set_option linter.unusedVariables false
set_option linter.unusedSimpArgs false

theorem Row.ils {w : World} {g n : Nat} {f : Nat → Int} (h : Row w g 3 n fun i => .int .i64 (f i)) : Ils w (.slice (some ⟨g, 0, none⟩) (n + 1) (n + 1)) ((List.range (n + 1)).map f) := by
  refine .inl ⟨g, 0, n + 1, by simp, fun i x hx => ?_⟩
  rw [List.getElem?_map] at hx
  by_cases hi : i < n + 1
  · rw [List.getElem?_range hi] at hx
    simp only [Option.map_some, Option.some.injEq] at hx
    subst hx
    exact ⟨_, by rw [Nat.zero_add]; exact (h.at (i := i) (by omega)).1, rfl⟩
  · rw [List.getElem?_eq_none (by simp; omega)] at hx
    cases hx

theorem at_range (f : Nat → Int) {n i : Nat} (hi : i < n) : at_ ((List.range n).map f) i = f i := by
  unfold at_
  rw [List.getD_eq_getElem?_getD, List.getElem?_map, List.getElem?_range hi]
  rfl

theorem Row.imp {w : World} {g n : Nat} {e : TypeId} {f f' : Nat → Value} (h : Row w g e n f) (hf : ∀ i, i ≤ n → f i = f' i) : Row w g e n f' := by
  obtain ⟨C, h1, h2⟩ := h
  exact ⟨C, h1, fun i hi => by rw [h2 i hi, hf i hi]⟩

def endF (a : Nat) (last : Int) (t : Nat) (k : Int) (i : Nat) : Int := if i = a then k else if i + 1 = a then last else if i + 2 = a then (if t = 1 then last else last - 1) else 0
def endL (a : Nat) (last : Int) (t : Nat) (k : Int) : List Int := (List.range (a + 1)).map (endF a last t k)

theorem endL_len (a : Nat) (last : Int) (t : Nat) (k : Int) : (endL a last t k).length = a + 1 := by unfold endL; simp
theorem endL_at (a : Nat) (last : Int) (t : Nat) (k : Int) : at_ (endL a last t k) a = k := by unfold endL; rw [at_range _ (by omega)]; unfold endF; rw [if_pos rfl]
theorem endL_last {a : Nat} (last : Int) (t : Nat) (k : Int) (ha : 1 ≤ a) : at_ (endL a last t k) (a - 1) = last := by unfold endL; rw [at_range _ (by omega)]; unfold endF; rw [if_neg (by omega), if_pos (by omega)]
theorem endL_same {a : Nat} (last : Int) (t : Nat) (k : Int) (ha : 1 ≤ a) : sameB (endL a last t k) a = (decide (2 ≤ a) && decide (t = 1)) := by
  unfold sameB
  rw [endL_last _ _ _ ha]
  by_cases h : 2 ≤ a
  · unfold endL
    rw [at_range _ (by omega)]
    unfold endF
    rw [if_neg (by omega), if_neg (by omega), if_pos (by omega)]
    by_cases ht : t = 1
    · rw [if_pos ht]; simp [ht]
    · rw [if_neg ht, decide_eq_true h, decide_eq_false ht, Bool.true_and, Bool.and_false, beq_eq_false_iff_ne]; omega
  · rw [decide_eq_false h]; rfl

theorem brk_end (r : Ru) (g : List Int) {a : Nat} (last : Int) (t : Nat) (k : Int) (ha : 1 ≤ a) : brkZ r g (endL a last t k) a = if aloneZ r g a k = 0 then behindZ r g a k last (decide (2 ≤ a) && decide (t = 1)) else aloneZ r g a k := by
  unfold brkZ
  rw [endL_at, endL_last _ _ _ ha, endL_same _ _ _ ha]
  by_cases h : aloneZ r g a k = 0
  · rw [if_pos ⟨h, by omega⟩, if_pos h]
  · rw [if_neg (fun x => h x.1), if_neg h]

set_option maxHeartbeats 3000000 in
set_option maxRecDepth 100000 in
theorem ended_calls (a : Nat) (last : Int) (t : Nat) (k : Int) (w : World) (ha : 1 ≤ a ∧ a ≤ 64) (hl : 0 ≤ last ∧ last ≤ 127) (hk : 0 ≤ k ∧ k ≤ 127) (ht : t < 2) :
    Calls Try.prog 29 #[.int .i64 (a : Int), .int .i64 last, .int .i64 (t : Int), .int .i64 k] w fun e w' => ∃ g, e = .returned (.slice (some ⟨g, 0, none⟩) (a + 1) (a + 1)) ∧ Hid (Ils w' (.slice (some ⟨g, 0, none⟩) (a + 1) (a + 1)) (endL a last t k)) ∧ Hid (w.grownBy w' none) := by
  obtain ⟨i0, hi, hz0, hz1, hz2⟩ := info_parts RFind.info3
  obtain ⟨l0, l1⟩ := hl
  obtain ⟨k0, k1⟩ := hk
  obtain ⟨c, rfl⟩ : ∃ c, a = c + 1 := ⟨a - 1, by omega⟩
  have hc : c ≤ 63 := by omega
  clear ha
  by_cases h0 : c = 0
  · subst h0
    go_enter Try.func29, Try.ntmps29
    go_upto_region 2 with (at_make; refine wpList_make_full _ rfl _ _ 24 rfl w.heap.size 3 i0 (.int .i64 0) 1 Try.underlying24 hi hz0 hz1 _ _ _ _ 2 rfl rfl (by rfl) (by rfl) (by rw [hz2]; omega) (by unfold maxLen; omega) (Nat.le_refl _) ?_; intro w2 hown2 hg2; have HOW2 := Lib.hid hown2; have HG2 := Lib.hid hg2; clear hown2 hg2)
    obtain ⟨gb, hgb⟩ : ∃ gb, w.heap.size = gb := ⟨_, rfl⟩
    have R0 : Hid (Row w2 gb 3 (1) fun _ => .int .i64 0) := by
      unfold Hid
      rw [← hgb]
      exact Row.made rfl HOW2.out
    have HGB := Lib.hid hgb
    simp only [hgb]
    clear hgb
    have c0 := (R0.out.at (i := 0) (by omega)).1
    have f0 := (R0.out.at (i := 0) (by omega)).2
    have c1 := (R0.out.at (i := 1) (by omega)).1
    have f1 := (R0.out.at (i := 1) (by omega)).2
    go_wp2_with fail
    go_ret
    refine ⟨gb, rfl, ?_, ?_⟩
    · have h := ((R0.out.set (i := 1) (by omega) (.int .i64 k)).set (i := 0) (by omega) (.int .i64 last))
      unfold Hid
      refine Row.ils (n := 1) (f := endF 1 last t k) ?_
      refine Row.imp h ?_
      intro i hi
      unfold endF
      have : i = 0 ∨ i = 1 := by omega
      rcases this with rfl | rfl <;> simp
    · exact grown_new (grown_set (p := ⟨gb, 0, none⟩) (grown_set (p := ⟨gb, 1, none⟩) (grown_none HG2.out (some gb)) (.inl rfl) _) (.inl rfl) _) (Nat.le_of_eq HGB.out)
  · obtain ⟨d, rfl⟩ : ∃ d, c = d + 1 := ⟨c - 1, by omega⟩
    go_enter Try.func29, Try.ntmps29
    go_upto_region 2 with (at_make; refine wpList_make_full _ rfl _ _ 24 rfl w.heap.size 3 i0 (.int .i64 0) 1 Try.underlying24 hi hz0 hz1 _ _ _ _ (d + 1 + 1 + 1) rfl rfl (by rfl) (by rfl) (by rw [hz2]; omega) (by unfold maxLen; omega) (Nat.le_refl _) ?_; intro w2 hown2 hg2; have HOW2 := Lib.hid hown2; have HG2 := Lib.hid hg2; clear hown2 hg2)
    obtain ⟨gb, hgb⟩ : ∃ gb, w.heap.size = gb := ⟨_, rfl⟩
    have R0 : Hid (Row w2 gb 3 (d + 1 + 1) fun _ => .int .i64 0) := by
      unfold Hid
      rw [← hgb]
      exact Row.made rfl HOW2.out
    have HGB := Lib.hid hgb
    simp only [hgb]
    clear hgb
    have c0 := (R0.out.at (i := d) (by omega)).1
    have f0 := (R0.out.at (i := d) (by omega)).2
    have c1 := (R0.out.at (i := d + 1) (by omega)).1
    have f1 := (R0.out.at (i := d + 1) (by omega)).2
    have c2 := (R0.out.at (i := d + 1 + 1) (by omega)).1
    have f2 := (R0.out.at (i := d + 1 + 1) (by omega)).2
    have ht' : t = 0 ∨ t = 1 := by omega
    rcases ht' with rfl | rfl
    · go_wp2_with fail
      go_ret
      refine ⟨gb, rfl, ?_, ?_⟩
      · have h := ((R0.out.set (i := d + 1 + 1) (by omega) (.int .i64 k)).set (i := d + 1) (by omega) (.int .i64 last)).set (i := d) (by omega) (.int .i64 (last - 1))
        unfold Hid
        refine Row.ils (n := d + 1 + 1) (f := endF (d + 1 + 1) last 0 k) ?_
        refine Row.imp h ?_
        intro i hi
        unfold endF
        by_cases e0 : i = d
        · subst e0; simp <;> (intros; omega)
        by_cases e1 : i = d + 1
        · subst e1; simp
        by_cases e2 : i = d + 1 + 1
        · subst e2; simp <;> (intros; omega)
        · rw [if_neg e0, if_neg e1, if_neg e2, if_neg e2, if_neg (by omega), if_neg (by omega)]
      · exact grown_new (grown_set (p := ⟨gb, d, none⟩) (grown_set (p := ⟨gb, d + 1, none⟩) (grown_set (p := ⟨gb, d + 1 + 1, none⟩) (grown_none HG2.out (some gb)) (.inl rfl) _) (.inl rfl) _) (.inl rfl) _) (Nat.le_of_eq HGB.out)
    · go_wp2_with fail
      go_ret
      refine ⟨gb, rfl, ?_, ?_⟩
      · have h := (((R0.out.set (i := d + 1 + 1) (by omega) (.int .i64 k)).set (i := d + 1) (by omega) (.int .i64 last)).set (i := d) (by omega) (.int .i64 last)).set (i := d) (by omega) (.int .i64 last)
        unfold Hid
        refine Row.ils (n := d + 1 + 1) (f := endF (d + 1 + 1) last 1 k) ?_
        refine Row.imp h ?_
        intro i hi
        unfold endF
        by_cases e0 : i = d
        · subst e0; simp <;> (intros; omega)
        by_cases e1 : i = d + 1
        · subst e1; simp
        by_cases e2 : i = d + 1 + 1
        · subst e2; simp [e0]
        · rw [if_neg e0, if_neg e0, if_neg e1, if_neg e2, if_neg e2, if_neg (by omega), if_neg (by omega)]
      · exact grown_new (grown_set (p := ⟨gb, d, none⟩) (grown_set (p := ⟨gb, d, none⟩) (grown_set (p := ⟨gb, d + 1, none⟩) (grown_set (p := ⟨gb, d + 1 + 1, none⟩) (grown_none HG2.out (some gb)) (.inl rfl) _) (.inl rfl) _) (.inl rfl) _) (.inl rfl) _) (Nat.le_of_eq HGB.out)
end Go.Proofs.Ythdohdllpaijhaa.REnd
