/- WireShort: it returns true. -/
import Derived.Test.YtffdglhjfpnbpaaWPack
namespace Go.Proofs.Ytffdglhjfpnbpaa.WShort
open Go Go.RowKit Go.Proofs.Ytffdglhjfpnbpaa.WMod Go.Proofs.Ytffdglhjfpnbpaa.Opn Go.Proofs.Ytffdglhjfpnbpaa.Hp Go.Proofs.Ytffdglhjfpnbpaa.Rd Go.Proofs.Ytffdglhjfpnbpaa.WWrong Go.Proofs.Ytffdglhjfpnbpaa.WWait Go.Proofs.Ytffdglhjfpnbpaa.WPack
set_option linter.unusedVariables false

def ev0 : Ev := ⟨0, 9, 0, 60, 1⟩
theorem wrong0 : wrong [ev0] = 0 := by decide
theorem pack0 : packS [ev0] = ⟨#[0, 144, 60, 1]⟩ := by decide +kernel

set_option maxHeartbeats 400000 in
set_option maxRecDepth 100000 in
theorem alive_calls (w : World) : Calls Try.prog 6 #[] w fun e w' => e = .returned (.bool true) ∧ Hid (w.grownBy w' none) := by
  have hev : Evs (w.alloc (.cells #[.int .i64 0, .int .i64 9, .int .i64 0, .int .i64 60, .int .i64 1] 36)) (.slice (some ⟨w.heap.size, 0, none⟩) 1 1) [ev0] := by
    refine .inl ⟨w.heap.size, 0, 1, rfl, fun i x hx => ?_⟩
    match i with
    | 0 =>
      simp only [List.getElem?_cons_zero, Option.some.injEq] at hx
      subst hx
      refine ⟨ev0.cells, rfl, fun j u hu => ?_, rfl, by decide⟩
      rw [cell_of (heap_alloc_new _ _)]
      simpa [ev0, Ev.cells] using hu
    | i + 1 => simp at hx
  have A := Lib.hid (pack_calls (some ⟨w.heap.size, 0, none⟩) 1 [ev0] _ hev)
  have HG : Hid (w.grownBy (w.alloc (.cells #[.int .i64 0, .int .i64 9, .int .i64 0, .int .i64 60, .int .i64 1] 36)) none) := grown_alloc (grown_refl _ _) _
  rw [wrong0, pack0, show [ev0].length = 1 from rfl] at A
  clear hev
  go_enter Try.func6, Try.ntmps6
  go_wp2_with (go_at_call 7; refine (A.out).mono ?_; rintro e w1 ⟨rfl, hg1⟩; have HG1 := Lib.hid hg1; clear hg1)
  go_ret
  exact ⟨rfl, grown_trans HG.out HG1.out.out⟩

theorem evs_take {w : World} {ao : Option Addr} {cap m : Nat} {es : List Ev} (h : Evs w (.slice ao es.length cap) es) (hm : m ≤ es.length) : Evs w (.slice ao (es.take m).length m) (es.take m) := by
  rcases h with ⟨b, off, cap', hh, hel⟩ | ⟨ao', cap', hh, rfl⟩
  · simp only [Value.slice.injEq] at hh
    obtain ⟨rfl, _, _⟩ := hh
    refine .inl ⟨b, off, m, rfl, fun i x hx => hel i x ?_⟩
    rw [List.getElem?_take] at hx
    split at hx
    · exact hx
    · cases hx
  · exact .inr ⟨ao, m, by simp, by simp⟩

theorem strOf_append (a b : List Nat) : (strOf a).size ≤ (strOf (a ++ b)).size ∧ (strOf (a ++ b)).extract 0 (strOf a).size = strOf a := by
  constructor
  · simp [strOf, ByteArray.size]
  · apply ByteArray.ext
    simp [strOf, ByteArray.size]

set_option maxHeartbeats 800000 in
set_option maxRecDepth 100000 in
theorem law (ao : Option Addr) (cap : Nat) (es : List Ev) (r : Int) (w : World) (hv : Evs w (.slice ao es.length cap) es) (hcap : es.length ≤ cap) :
    Calls Try.prog 3 #[.slice ao es.length cap, .int .i64 r] w fun e w' => e = .returned (.bool true) ∧ Hid (w.grownBy w' none) := by
  obtain ⟨n, hn⟩ : ∃ n, es.length = n := ⟨_, rfl⟩
  have HV := Lib.hid hv
  have HN := Lib.hid hn
  rw [hn] at hcap ⊢
  by_cases h1 : r < 0
  · clear hv hn
    go_enter Try.func3, Try.ntmps3
    go_wp2_with (go_at_call 6; refine (alive_calls _).mono ?_; rintro e w1 ⟨rfl, hg1⟩; have HG1 := Lib.hid hg1; clear hg1)
    go_ret
    exact ⟨rfl, HG1.out⟩
  by_cases h2 : (n : Int) < r
  · clear hv hn
    go_enter Try.func3, Try.ntmps3
    go_wp2_with (go_at_call 6; refine (alive_calls _).mono ?_; rintro e w1 ⟨rfl, hg1⟩; have HG1 := Lib.hid hg1; clear hg1)
    go_ret
    exact ⟨rfl, HG1.out⟩
  obtain ⟨m, rfl⟩ : ∃ m : Nat, r = m := ⟨r.toNat, by omega⟩
  have A1 := Lib.hid (fun w1 (hg : w.grownBy w1 none) => pack_calls ao cap es w1 (Slc.grown hv hg fun _ _ h => h))
  rw [hn] at A1
  obtain ⟨e1, he1⟩ : ∃ e, wrong es = e := ⟨_, rfl⟩
  obtain ⟨s, hs⟩ : ∃ s, packS es = s := ⟨_, rfl⟩
  rw [he1, hs] at A1
  by_cases hz : e1 = 0
  · have A2 := Lib.hid (fun w1 (hg : w.grownBy w1 none) => pack_calls ao m (es.take m) w1 (Slc.grown (evs_take hv (by omega)) hg fun _ _ h => h))
    have hlen : (es.take m).length = m := by rw [List.length_take]; omega
    rw [wrong_take m (he1.trans hz), hlen] at A2
    obtain ⟨t, ht⟩ : ∃ t, packS (es.take m) = t := ⟨_, rfl⟩
    rw [ht] at A2
    subst hz
    have hst : t.size ≤ s.size ∧ s.extract 0 t.size = t := by
      rw [← hs, ← ht]
      unfold packS
      rw [if_pos he1, if_pos (wrong_take m he1)]
      obtain ⟨q, hq⟩ := packL_take 0 0 es m
      rw [hq]
      exact strOf_append _ _
    obtain ⟨hst1, hst2⟩ := hst
    clear hv hn he1 hs ht hlen
    go_enter Try.func3, Try.ntmps3
    go_wp2_with (first
      | (go_at_call 6; refine (alive_calls _).mono ?_; rintro e w1 ⟨rfl, hg1⟩; have HG1 := Lib.hid hg1; clear hg1)
      | (go_at_call 7; refine (A1.out _ HG1.out.out).mono ?_; rintro e w2 ⟨rfl, hg2⟩; have HG2 := Lib.hid (grown_trans HG1.out.out hg2.out); clear hg2 A1)
      | (go_at_call 7; refine (A2.out _ HG2.out).mono ?_; rintro e w3 ⟨rfl, hg3⟩; have HG3 := Lib.hid (grown_trans HG2.out hg3.out); clear hg3))
    go_ret
    exact ⟨rfl, HG3.out⟩
  · have hz2 : (e1 != 0) = true := by simpa using hz
    clear hv hn he1 hs
    go_enter Try.func3, Try.ntmps3
    go_wp2_with (first
      | (go_at_call 6; refine (alive_calls _).mono ?_; rintro e w1 ⟨rfl, hg1⟩; have HG1 := Lib.hid hg1; clear hg1)
      | (go_at_call 7; refine (A1.out _ HG1.out.out).mono ?_; rintro e w2 ⟨rfl, hg2⟩; have HG2 := Lib.hid (grown_trans HG1.out.out hg2.out); clear hg2))
    go_ret
    exact ⟨rfl, HG2.out⟩

end Go.Proofs.Ytffdglhjfpnbpaa.WShort
