/- Right, Less, order: the walks. -/
import Derived.Test.YtdnmimfichijgaaKRead
import Derived.Test.YtdnmimfichijgaaMixed
import Derived.Test.YtdnmimfichijgaaProg
import Derived.WalkKit
import Derived.WalkLawsBesides
import Derived.BigQuiet
import Derived.IntWalk
import Derived.Outline
import Derived.Deep.Cut
import Derived.Deep.CutRange
import Derived.Lib.Hide
namespace Go.Proofs.Ytdnmimfichijgaa.KLess
open Go Go.RowKit Go.Proofs.Ytdnmimfichijgaa.KMod Go.Proofs.Ytdnmimfichijgaa.KRead Go.Proofs.Ytdnmimfichijgaa.Hp Go.Proofs.Ytdnmimfichijgaa.Rd Go.Proofs.Ytdnmimfichijgaa.Opn
set_option linter.unusedVariables false
set_option linter.unusedSimpArgs false

set_option maxHeartbeats 1000000 in
set_option maxRecDepth 100000 in
theorem right_calls (t : Tone) (w : World) : Calls Try.prog 33 #[.agg #[.int .i64 t.lt, .int .i64 t.al, .int .i64 t.oc]] w fun e w' => e = .returned (.bool (rightB t)) ∧ Hid (w.grownBy w' none) := by
  obtain ⟨p, q, x, y, z⟩ := t
  have HG : ∀ o, Hid (w.grownBy (w.alloc o) none) := fun o => grown_alloc (grown_refl _ _) _
  go_enter Try.func33, Try.ntmps33
  go_wp2_with fail
  all_goals
    go_ret
    refine ⟨?_, (HG _).out⟩
    simp [rightB]
    try omega

set_option maxHeartbeats 1000000 in
theorem abs_calls (n : Int) (w : World) : Calls Try.prog 29 #[.int .i64 n] w fun e w' => e = .returned (.int .i64 (if n < 0 then wrap64 (-n) else n)) ∧ w = w' := by
  by_cases h : n < 0
  · rw [if_pos h]
    go_enter Try.func29, Try.ntmps29
    go_wp2_with fail
    go_ret
    exact ⟨rfl, rfl⟩
  · rw [if_neg h]
    go_enter Try.func29, Try.ntmps29
    go_wp2_with fail
    go_ret
    exact ⟨rfl, rfl⟩

set_option maxHeartbeats 1000000 in
set_option maxRecDepth 100000 in
theorem rright_calls (t : Tone) (w : World) : Calls Try.prog 22 #[.agg #[.int .i64 t.lt, .int .i64 t.al, .int .i64 t.oc]] w fun e w' => e = .returned (.bool (rightB t)) ∧ Hid (w.grownBy w' none) := by
  obtain ⟨p, q, x, y, z⟩ := t
  have HG : ∀ o, Hid (w.grownBy (w.alloc o) none) := fun o => grown_alloc (grown_refl _ _) _
  have AC := Lib.hid (fun w' => abs_calls y w')
  obtain ⟨A, hA⟩ : ∃ A, (if y < 0 then wrap64 (-y) else y) = A := ⟨_, rfl⟩
  simp only [hA] at AC
  have hA1 : y < 0 → -3 ≤ y → A = -y := by
    intro h1 h2
    rw [← hA, if_pos h1]
    unfold wrap64
    omega
  have hA2 : 0 ≤ y → A = y := by
    intro h1
    rw [← hA, if_neg (by omega)]
  have HA : Hid ((y < 0 → -3 ≤ y → A = -y) ∧ (0 ≤ y → A = y)) := ⟨hA1, hA2⟩
  clear hA hA1 hA2
  go_enter Try.func22, Try.ntmps22
  go_wp2_with (go_at_call 29; refine (AC.out _).mono ?_; rintro e1 w1 ⟨rfl, rfl⟩)
  all_goals
    go_ret
    refine ⟨?_, (HG _).out⟩
    have h1 := HA.out.1
    have h2 := HA.out.2
    simp [rightB]
    first
      | omega
      | (rw [Bool.eq_iff_iff]; simp only [Bool.and_eq_true, decide_eq_true_eq]; omega)

set_option maxHeartbeats 2000000 in
set_option maxRecDepth 100000 in
theorem less_calls (a b : Tone) (w : World) : Calls Try.prog 23 #[.agg #[.int .i64 a.at_, .int .i64 a.long, .int .i64 a.lt, .int .i64 a.al, .int .i64 a.oc], .agg #[.int .i64 b.at_, .int .i64 b.long, .int .i64 b.lt, .int .i64 b.al, .int .i64 b.oc]] w fun e w' => e = .returned (.bool (lessB a b)) ∧ Hid (w.grownBy w' none) := by
  obtain ⟨a1, a2, a3, a4, a5⟩ := a
  obtain ⟨b1, b2, b3, b4, b5⟩ := b
  have HG : ∀ o o', Hid (w.grownBy ((w.alloc o).alloc o') none) := fun o o' => grown_alloc (grown_alloc (grown_refl _ _) _) _
  by_cases h1 : a1 = b1
  · subst h1
    by_cases h2 : a2 = b2
    · subst h2
      by_cases h3 : a5 = b5
      · subst h3
        by_cases h4 : a3 = b3
        · subst h4
          go_enter Try.func23, Try.ntmps23
          go_wp2_with fail
          go_ret
          exact ⟨by simp [lessB], (HG _ _).out⟩
        · have hz : (a3 != b3) = true := by simpa using h4
          have HR : Hid (lessB ⟨a1, a2, a3, a4, a5⟩ ⟨a1, a2, b3, b4, a5⟩ = decide (a3 < b3)) := by unfold Hid; simp [lessB, h4]
          clear h4
          go_enter Try.func23, Try.ntmps23
          go_wp2_with fail
          go_ret
          exact ⟨by rw [HR.out]; rfl, (HG _ _).out⟩
      · have hz : (a5 != b5) = true := by simpa using h3
        have HR : Hid (lessB ⟨a1, a2, a3, a4, a5⟩ ⟨a1, a2, b3, b4, b5⟩ = decide (a5 < b5)) := by unfold Hid; simp [lessB, h3]
        clear h3
        go_enter Try.func23, Try.ntmps23
        go_wp2_with fail
        go_ret
        exact ⟨by rw [HR.out]; rfl, (HG _ _).out⟩
    · have hz : (a2 != b2) = true := by simpa using h2
      have HR : Hid (lessB ⟨a1, a2, a3, a4, a5⟩ ⟨a1, b2, b3, b4, b5⟩ = decide (a2 < b2)) := by unfold Hid; simp [lessB, h2]
      clear h2
      go_enter Try.func23, Try.ntmps23
      go_wp2_with fail
      go_ret
      exact ⟨by rw [HR.out]; rfl, (HG _ _).out⟩
  · have hz : (a1 != b1) = true := by simpa using h1
    have HR : Hid (lessB ⟨a1, a2, a3, a4, a5⟩ ⟨b1, b2, b3, b4, b5⟩ = decide (a1 < b1)) := by unfold Hid; simp [lessB, h1]
    clear h1
    go_enter Try.func23, Try.ntmps23
    go_wp2_with fail
    go_ret
    exact ⟨by rw [HR.out]; rfl, (HG _ _).out⟩

/-- The five pairs that are looked at. -/
def prs (a b : Tone) : List (Int × Int) := [(a.at_, b.at_), (a.long, b.long), (a.oc, b.oc), (a.lt, b.lt), (a.al, b.al)]
def ordP : List (Int × Int) → Int
  | [] => 0
  | p :: r => if p.1 ≠ p.2 then p.1 - p.2 else ordP r
theorem ordP_eq (a b : Tone) : ordP (prs a b) = ordT a b := rfl

def prC (a b : Tone) : Array Value := #[.int .i64 a.at_, .int .i64 b.at_, .int .i64 a.long, .int .i64 b.long, .int .i64 a.oc, .int .i64 b.oc, .int .i64 a.lt, .int .i64 b.lt, .int .i64 a.al, .int .i64 b.al]
theorem prC_get (a b : Tone) (k : Nat) (p : Int × Int) (h : (prs a b)[k]? = some p) : (prC a b)[k * 2]? = some (.int .i64 p.1) ∧ (prC a b)[k * 2 + 1]? = some (.int .i64 p.2) := by
  match k, h with
  | 0, h => simp [prs] at h; subst h; exact ⟨rfl, rfl⟩
  | 1, h => simp [prs] at h; subst h; exact ⟨rfl, rfl⟩
  | 2, h => simp [prs] at h; subst h; exact ⟨rfl, rfl⟩
  | 3, h => simp [prs] at h; subst h; exact ⟨rfl, rfl⟩
  | 4, h => simp [prs] at h; subst h; exact ⟨rfl, rfl⟩
  | k + 5, h => simp [prs] at h

theorem prs_bound {a b : Tone} (ha : okT a) (hb : okT b) : ∀ p ∈ prs a b, -2097152 ≤ p.1 - p.2 ∧ p.1 - p.2 ≤ 2097152 := by
  obtain ⟨⟨r1, r2, r3, r4⟩, r5⟩ := ha
  obtain ⟨⟨q1, q2, q3, q4⟩, q5⟩ := hb
  simp only [rightB, Bool.and_eq_true, decide_eq_true_eq] at r5 q5
  intro p hp
  simp only [prs, List.mem_cons, List.not_mem_nil, or_false] at hp
  rcases hp with rfl | rfl | rfl | rfl | rfl <;> simp only <;> omega

set_option maxHeartbeats 4000000 in
set_option maxRecDepth 100000 in
theorem order_calls (a b : Tone) (w : World) (ha : okT a) (hb : okT b) : Calls Try.prog 34 #[.agg #[.int .i64 a.at_, .int .i64 a.long, .int .i64 a.lt, .int .i64 a.al, .int .i64 a.oc], .agg #[.int .i64 b.at_, .int .i64 b.long, .int .i64 b.lt, .int .i64 b.al, .int .i64 b.oc]] w fun e w' => e = .returned (.int .i64 (ordT a b)) ∧ Hid (w.grownBy w' none) := by
  have HB := Lib.hid (prs_bound ha hb)
  have HC := Lib.hid (prC_get a b)
  have HR : Hid (ordP ((prs a b).drop 0) = ordT a b) := ordP_eq a b
  have HL : Hid ((prs a b).length = 5) := rfl
  obtain ⟨P, hP⟩ : ∃ P, prs a b = P := ⟨_, rfl⟩
  obtain ⟨R, hR⟩ : ∃ R, ordT a b = R := ⟨_, rfl⟩
  unfold prC at HC
  rw [hP] at HB HC HR HL
  rw [hR] at HR
  rw [hR]
  clear ha hb hP hR
  obtain ⟨a1, a2, a3, a4, a5⟩ := a
  obtain ⟨b1, b2, b3, b4, b5⟩ := b
  simp only at HC
  go_enter Try.func34, Try.ntmps34
  go_upto_region 2 with fail
  obtain ⟨q, hq⟩ : ∃ q, w.heap.size + 1 + 1 = q := ⟨_, rfl⟩
  obtain ⟨wB, hwB⟩ : ∃ wB, ((w.alloc (.cells #[.int .i64 a1, .int .i64 a2, .int .i64 a3, .int .i64 a4, .int .i64 a5] 38)).alloc (.cells #[.int .i64 b1, .int .i64 b2, .int .i64 b3, .int .i64 b4, .int .i64 b5] 38)).alloc (.cells #[.int .i64 a1, .int .i64 b1, .int .i64 a2, .int .i64 b2, .int .i64 a5, .int .i64 b5, .int .i64 a3, .int .i64 b3, .int .i64 a4, .int .i64 b4] 86) = wB := ⟨_, rfl⟩
  have HGB : Hid (w.grownBy wB none) := by unfold Hid; rw [← hwB]; exact grown_alloc (grown_alloc (grown_alloc (grown_refl _ _) _) _) _
  have HRB : Hid (wB.heap[q]? = some (.cells #[.int .i64 a1, .int .i64 b1, .int .i64 a2, .int .i64 b2, .int .i64 a5, .int .i64 b5, .int .i64 a3, .int .i64 b3, .int .i64 a4, .int .i64 b4] 86 (0, 0))) := by
    unfold Hid
    rw [← hwB, ← hq]
    have := heap_alloc_new ((w.alloc (.cells #[.int .i64 a1, .int .i64 a2, .int .i64 a3, .int .i64 a4, .int .i64 a5] 38)).alloc (.cells #[.int .i64 b1, .int .i64 b2, .int .i64 b3, .int .i64 b4, .int .i64 b5] 38)) (.cells #[.int .i64 a1, .int .i64 b1, .int .i64 a2, .int .i64 b2, .int .i64 a5, .int .i64 b5, .int .i64 a3, .int .i64 b3, .int .i64 a4, .int .i64 b4] 86)
    simpa using this
  simp only [hwB, hq]
  have HQ := Lib.hid hq
  clear hwB hq
  go_wp2_with fail
  go_loopw [42] (fun v42 wr => ∃ k : Nat, k ≤ 5 ∧ v42 = .int .i64 (k : Int) ∧ Hid (ordP (P.drop k) = R) ∧ Hid (wB.grownBy wr none)) (fun v42 _ => 5 - (intOf v42).toNat)
  case atStart => exact ⟨0, by omega, rfl, HR.out, grown_refl _ _⟩
  case round =>
    obtain ⟨k, hk, rfl, HRK, HG⟩ := hrel
    by_cases hk5 : k = 5
    · have HZ : Hid (R = 0) := by
        have h := HRK.out
        rw [hk5, List.drop_eq_nil_of_le (by rw [HL.out]; exact Nat.le_refl _)] at h
        exact h.symm
      subst hk5
      go_wp2_with fail
      go_ret
      exact ⟨by rw [HZ.out]; rfl, grown_trans HGB.out HG.out⟩
    have hk2 : k < 5 := by omega
    have hk3 : (k : Int) < 5 := by omega
    obtain ⟨p, hp⟩ : ∃ p, P[k]? = some p := ⟨P[k]'(by rw [HL.out]; exact hk2), List.getElem?_eq_getElem _⟩
    obtain ⟨g0, g1⟩ := HC.out k p hp
    have hbd := HB.out p (List.mem_of_getElem? hp)
    have HST : Hid (ordP (P.drop k) = if p.1 ≠ p.2 then p.1 - p.2 else ordP (P.drop (k + 1))) := by
      unfold Hid
      obtain ⟨hi, he⟩ := List.getElem?_eq_some_iff.1 hp
      rw [List.drop_eq_getElem_cons hi, he]
      rfl
    have HRR : Hid (wr.heap[q]? = some (.cells #[.int .i64 a1, .int .i64 b1, .int .i64 a2, .int .i64 b2, .int .i64 a5, .int .i64 b5, .int .i64 a3, .int .i64 b3, .int .i64 a4, .int .i64 b4] 86 (0, 0))) := row_kept HG.out HRB.out (by simp)
    have c0 := (cell_of HRR.out (k * 2)).trans g0
    have c1 := (cell_of HRR.out (k * 2 + 1)).trans g1
    obtain ⟨x, y⟩ := p
    simp only at c0 c1 hbd HST
    clear g0 g1 hp
    have HGA : ∀ o, Hid (w.grownBy (wr.alloc o) none) := fun o => grown_alloc (grown_trans HGB.out HG.out) _
    have HGA2 : ∀ o, Hid (wB.grownBy (wr.alloc o) none) := fun o => grown_alloc HG.out _
    have exy : IntKind.i64.wrap (x - y) = x - y := IntWalk.i64_in _ (by omega)
    by_cases hxy : x = y
    · have HN : Hid (ordP (P.drop (k + 1)) = R) := by
        unfold Hid
        rw [← HRK.out, HST.out, if_neg (by simp [hxy])]
      subst hxy
      go_wp2_with fail
      refine ⟨?_, by simp [intOf]; omega⟩
      first
        | exact ⟨k + 1, by omega, rfl, HN.out, (HGA2 _).out⟩
        | (repeat apply Exists.intro
           refine ⟨?_, rfl⟩
           exact ⟨k + 1, by omega, rfl, HN.out, (HGA2 _).out⟩)
    · have HN : Hid (R = x - y) := by
        unfold Hid
        rw [← HRK.out, HST.out, if_pos hxy]
      have hz : (x != y) = true := by simpa using hxy
      clear hxy
      go_wp2_with fail
      go_ret
      exact ⟨by rw [HN.out]; rfl, (HGA _).out⟩

end Go.Proofs.Ytdnmimfichijgaa.KLess
