/- Less, alive. -/
import Derived.Test.YthdohdllpaijhaaRCount
namespace Go.Proofs.Ythdohdllpaijhaa.RLess
open Go Go.RowKit Go.Proofs.Ythdohdllpaijhaa.RMod Go.Proofs.Ythdohdllpaijhaa.RCount Go.Proofs.Ythdohdllpaijhaa.RCnt Go.Proofs.Ythdohdllpaijhaa.RAlone Go.Proofs.Ythdohdllpaijhaa.Hp Go.Proofs.Ythdohdllpaijhaa.Rd
set_option linter.unusedVariables false
set_option linter.unusedSimpArgs false

def lessL : List Int → List Int → Bool
  | a :: la, b :: lb => if a = b then lessL la lb else decide (a < b)
  | _, _ => true

theorem less_step {A B : List Int} {k : Nat} {x y : Int} (hx : A[k]? = some x) (hy : B[k]? = some y) : lessL (A.drop k) (B.drop k) = if x = y then lessL (A.drop (k + 1)) (B.drop (k + 1)) else decide (x < y) := by
  obtain ⟨h1, h2⟩ := List.getElem?_eq_some_iff.1 hx
  obtain ⟨h3, h4⟩ := List.getElem?_eq_some_iff.1 hy
  rw [List.drop_eq_getElem_cons h1, List.drop_eq_getElem_cons h3, h2, h4]
  rfl

theorem less_end {A B : List Int} : lessL (A.drop A.length) B = true := by rw [List.drop_length]; cases B <;> rfl

set_option maxHeartbeats 2000000 in
set_option maxRecDepth 100000 in
theorem less_calls (a1 a2 : Option Addr) (c1 c2 : Nat) (A B : List Int) (w : World) (hm : A.length < 9223372036854775807) (hlen : A.length = B.length) (h1 : Ils w (.slice a1 A.length c1) A) (h2 : Ils w (.slice a2 B.length c2) B) :
    Calls Try.prog 17 #[.slice a1 A.length c1, .slice a2 B.length c2] w fun e w' => e = .returned (.bool (lessL A B)) ∧ Hid (w.grownBy w' none) := by
  rw [← hlen] at h2 ⊢
  have H1 := Lib.hid h1
  have H2 := Lib.hid h2
  have HLEN := Lib.hid hlen
  obtain ⟨n, hn⟩ : ∃ n, A.length = n := ⟨_, rfl⟩
  have HN := Lib.hid hn
  obtain ⟨R, hR⟩ : ∃ R, lessL A B = R := ⟨_, rfl⟩
  have HR := Lib.hid hR
  rw [hn, hR]
  rw [hn] at hm
  clear h1 h2 hlen hn hR
  go_enter Try.func17, Try.ntmps17
  go_wp2_with fail
  go_loopw [8] (fun v8 wr => ∃ k : Nat, k ≤ n ∧ v8 = .int .i64 (k : Int) ∧ Hid (R = lessL (A.drop k) (B.drop k)) ∧ Hid (w.grownBy wr none)) (fun v8 _ => n - (intOf v8).toNat)
  case atStart => exact ⟨0, Nat.zero_le _, rfl, by unfold Hid; rw [HR.out.symm]; rfl, grown_refl _ _⟩
  case round =>
    obtain ⟨k, hk, rfl, HE, HG⟩ := hrel
    by_cases hend : k = n
    · have HX : Hid (R = true) := by unfold Hid; rw [HE.out, hend, ← HN.out]; exact less_end
      subst hend
      go_wp2_with fail
      go_ret
      exact ⟨by rw [HX.out]; rfl, HG.out⟩
    have hlt : k < n := by omega
    obtain ⟨b, off, rfl, hc⟩ := giv_at H1.out (i := k) (by rw [HN.out]; exact hlt)
    obtain ⟨b2, off2, rfl, hc2⟩ := giv_at (n := A.length) H2.out (i := k) (by rw [← HLEN.out, HN.out]; exact hlt)
    have hx : A[k]? = some (at_ A k) := by unfold at_; rw [List.getD_eq_getElem?_getD, List.getElem?_eq_getElem (by rw [HN.out]; exact hlt)]; rfl
    have hy : B[k]? = some (at_ B k) := by unfold at_; rw [List.getD_eq_getElem?_getD, List.getElem?_eq_getElem (by rw [← HLEN.out, HN.out]; exact hlt)]; rfl
    have HST := Lib.hid (less_step hx hy)
    obtain ⟨x, hxe⟩ : ∃ x, at_ A k = x := ⟨_, rfl⟩
    obtain ⟨y, hye⟩ : ∃ y, at_ B k = y := ⟨_, rfl⟩
    rw [hxe] at hc HST
    rw [hye] at hc2 HST
    have e1 := grown_cell HG.out hc (by simp)
    have e2 := grown_cell HG.out hc2 (by simp)
    clear hx hy hxe hye hc hc2
    have hki : (k : Int) < (n : Int) := by omega
    by_cases hxy : x = y
    · have HR2 : Hid (R = lessL (A.drop (k + 1)) (B.drop (k + 1))) := by unfold Hid; rw [HE.out, HST.out, if_pos hxy]
      subst hxy
      go_wp2_with fail
      go_quiet (fail)
      clear e1 e2
      go_wp2_with fail
      exact ⟨⟨k + 1, by omega, rfl, HR2.out, grown_drewN HG.out _⟩, by simp only [intOf]; omega⟩
    · have hxb : (x != y) = true := by simpa using hxy
      have HR2 : Hid (R = decide (x < y)) := by unfold Hid; rw [HE.out, HST.out, if_neg hxy]
      go_wp2_with fail
      go_quiet (fail)
      go_wp2_with fail
      go_quiet (fail)
      clear e1 e2
      go_wp2_with fail
      go_ret
      exact ⟨by rw [HR2.out]; rfl, grown_drewN (grown_drewN HG.out _) _⟩

theorem alive_cnt : cntV ⟨0, 127, false, 0, 1⟩ [60] = 11 ∧ wrongR ⟨0, 127, false, 0, 1⟩ [60] = 0 := by decide +kernel

set_option maxHeartbeats 1000000 in
theorem alive_calls (w : World) : Calls Try.prog 6 #[] w fun e w' => e = .returned (.bool true) ∧ Hid (w.grownBy w' none) := by
  have HG : Hid (w.grownBy (w.alloc (.cells #[.int .i64 60] 3)) none) := grown_alloc (grown_refl _ _) _
  have HI : Hid (Ils (w.alloc (.cells #[.int .i64 60] 3)) (.slice (some ⟨w.heap.size, 0, none⟩) 1 1) [60]) := by
    refine .inl ⟨w.heap.size, 0, 1, rfl, fun i x hx => ?_⟩
    match i, hx with
    | 0, hx => simp at hx; subst hx; exact ⟨.int .i64 60, cell_of (heap_alloc_new _ _) 0, rfl⟩
  have C := Lib.hid (count_calls ⟨0, 127, false, 0, 1⟩ (some ⟨w.heap.size, 0, none⟩) 1 [60] _ HI.out)
  rw [alive_cnt.1, alive_cnt.2] at C
  go_enter Try.func6, Try.ntmps6
  go_wp2_with (go_at_call 8; refine (C.out).mono ?_; rintro e w1 ⟨rfl, hg1⟩)
  go_ret
  exact ⟨rfl, grown_trans HG.out hg1.out⟩

end Go.Proofs.Ythdohdllpaijhaa.RLess
