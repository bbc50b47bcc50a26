/- StaveBest: it returns true. -/
import Derived.Test.YtlinbocnhmkoeaaSBetter
import Derived.Test.YtlinbocnhmkoeaaSBreak
namespace Go.Proofs.Ytlinbocnhmkoeaa.SBestL
open Go Go.RowKit Go.Proofs.Ytlinbocnhmkoeaa.SMod Go.Proofs.Ytlinbocnhmkoeaa.SBest Go.Proofs.Ytlinbocnhmkoeaa.SCost Go.Proofs.Ytlinbocnhmkoeaa.SSum Go.Proofs.Ytlinbocnhmkoeaa.SLaw Go.Proofs.Ytlinbocnhmkoeaa.SBetter Go.Proofs.Ytlinbocnhmkoeaa.SBreak Go.Proofs.Ytlinbocnhmkoeaa.Opn Go.Proofs.Ytlinbocnhmkoeaa.Hp Go.Proofs.Ytlinbocnhmkoeaa.Rd
set_option linter.unusedVariables false

def l0 : List Bx := [⟨3, 0⟩, ⟨3, 0⟩]

theorem wrong0 : wrongS l0 4 = 0 := by decide
theorem path0 : pathC l0 4 0 2 [1, 2] = some 1 := by decide
theorem only0 {r : List Nat} {c : Int} (h : pathC l0 4 0 2 r = some c) : r = [1, 2] ∧ c = 1 := by
  cases r with
  | nil => have := (path_nil h).1; omega
  | cons e s =>
    obtain ⟨h1, h2, x, y, h3, h4, rfl⟩ := pathC_cons h
    have he : e = 1 ∨ e = 2 := by omega
    rcases he with rfl | rfl
    · have hx : line l0 4 0 1 = some 1 := by decide
      rw [hx] at h3
      obtain rfl := Option.some.inj h3
      cases s with
      | nil => have := (path_nil h4).1; omega
      | cons f u =>
        obtain ⟨k1, k2, x', y', k3, k4, rfl⟩ := pathC_cons h4
        obtain rfl : f = 2 := by omega
        have hx' : line l0 4 1 2 = some 0 := by decide
        rw [hx'] at k3
        obtain rfl := Option.some.inj k3
        cases u with
        | nil => obtain ⟨_, rfl⟩ := path_nil k4; exact ⟨rfl, rfl⟩
        | cons g z => obtain ⟨m1, m2, _⟩ := pathC_cons k4; omega
    · have hx : line l0 4 0 2 = none := by decide
      rw [hx] at h3; cases h3

set_option maxHeartbeats 400000 in
set_option maxRecDepth 100000 in
theorem alive_calls (w : World) : Calls Try.prog 13 #[] w fun e w' => e = .returned (.bool true) ∧ Hid (w.grownBy w' none) := by
  have hbx : Bxs (w.alloc (.cells #[.int .i64 3, .int .i64 0, .int .i64 3, .int .i64 0] 35)) (.slice (some ⟨w.heap.size, 0, none⟩) 2 2) l0 := by
    refine .inl ⟨w.heap.size, 0, 2, rfl, fun i x hx => ?_⟩
    have hc := fun j => cell_of (heap_alloc_new w (.cells #[.int .i64 3, .int .i64 0, .int .i64 3, .int .i64 0] 35)) j
    have key : ∀ j u, (bxCells ⟨3, 0⟩)[j]? = some u → (j = 0 ∧ u = .int .i64 3) ∨ (j = 1 ∧ u = .int .i64 0) := by
      intro j u hu
      match j with
      | 0 => left; simpa [bxCells] using hu.symm
      | 1 => right; simpa [bxCells] using hu.symm
      | j + 2 => simp [bxCells] at hu
    match i with
    | 0 =>
      obtain rfl : (⟨3, 0⟩ : Bx) = x := by simpa [l0] using hx
      refine ⟨_, rfl, fun j u hu => ?_, rfl⟩
      rw [hc]
      rcases key j u hu with ⟨rfl, rfl⟩ | ⟨rfl, rfl⟩ <;> rfl
    | 1 =>
      obtain rfl : (⟨3, 0⟩ : Bx) = x := by simpa [l0] using hx
      refine ⟨_, rfl, fun j u hu => ?_, rfl⟩
      rw [hc]
      rcases key j u hu with ⟨rfl, rfl⟩ | ⟨rfl, rfl⟩ <;> rfl
    | i + 2 => simp [l0] at hx
  have A := Lib.hid (break_calls (some ⟨w.heap.size, 0, none⟩) 2 l0 4 _ hbx)
  have HG : Hid (w.grownBy (w.alloc (.cells #[.int .i64 3, .int .i64 0, .int .i64 3, .int .i64 0] 35)) none) := grown_alloc (grown_refl _ _) _
  clear hbx
  go_enter Try.func13, Try.ntmps13
  go_wp2_with fail
  refine (A.out).mono ?_
  rintro e w1 ⟨hg1, ⟨h, _⟩ | ⟨_, h, _⟩ | ⟨_, v, c, R, h1, h2, rfl⟩⟩
  · exact absurd wrong0 h
  · have := h [1, 2]; rw [show l0.length = 2 from rfl, path0] at this; cases this
  · obtain ⟨rfl, rfl⟩ := only0 h1.1
    obtain ⟨av, cv, rfl, _⟩ := sl_open h2
    have HG1 := Lib.hid (grown_trans HG.out hg1.out)
    clear hg1 h1 h2 A HG
    go_wp2_with fail
    go_ret
    exact ⟨rfl, HG1.out⟩

theorem toI_len (R : List Nat) : (toI R).length = R.length := by simp [toI]

theorem costS_bad {l : List Bx} {W : Int} {ends : List Int} (h : wrongS l W ≠ 0) : costS l W ends = (0, wrongS l W) := by unfold costS; rw [if_neg h]
theorem costS_good {l : List Bx} {W : Int} {ends : List Int} (h : wrongS l W = 0) : costS l W ends = costR l W 0 0 ends := by unfold costS; rw [if_pos h]
theorem costS_path {l : List Bx} {W : Int} {R : List Nat} {c : Int} (h : wrongS l W = 0) (hp : pathC l W 0 l.length R = some c) : costS l W (toI R) = (c, 0) := by
  rw [costS_good h, costR_of_path 0 hp, Int.zero_add]
theorem costS_is {l : List Bx} {W : Int} {ends : List Int} (h : wrongS l W = 0) (h0 : (costS l W ends).2 = 0) : ∃ R c, ends = toI R ∧ pathC l W 0 l.length R = some c ∧ (costS l W ends).1 = c := by
  rw [costS_good h] at h0 ⊢
  obtain ⟨R, c, h1, h2, h3⟩ := path_of_costR h0
  exact ⟨R, c, h1, h2, by rw [h3, Int.zero_add]⟩

set_option maxHeartbeats 1000000 in
set_option maxRecDepth 100000 in
theorem law (ao : Option Addr) (cap : Nat) (l : List Bx) (W : Int) (v : Value) (ends : List Int) (w : World) (hv : Bxs w (.slice ao l.length cap) l) (he : Ils w v ends) (hm : ends.length < 9223372036854775807) :
    Calls Try.prog 4 #[.slice ao l.length cap, .int .i64 W, v] w fun e w' => e = .returned (.bool true) ∧ Hid (w.grownBy w' none) := by
  have B1 := Lib.hid (fun w1 (hg : w.grownBy w1 none) => break_calls ao cap l W w1 (Slc.grown hv hg fun _ _ h => h))
  have C1 := Lib.hid (fun w1 v1 ends1 (hg : w.grownBy w1 none) (h1 : Ils w1 v1 ends1) (hm1 : ends1.length < 9223372036854775807) => cost_calls2 ao cap l W v1 ends1 w1 (Slc.grown hv hg fun _ _ h => h) h1 hm1)
  have HE := Lib.hid (fun w1 (hg : w.grownBy w1 none) => he.grown hg)
  have HM := Lib.hid hm
  obtain ⟨n, hn⟩ : ∃ n, l.length = n := ⟨_, rfl⟩
  have HN := Lib.hid hn
  simp only [hn] at B1 C1
  rw [hn]
  clear hv he hm hn
  go_enter Try.func4, Try.ntmps4
  go_wp2_with (go_at_call 13; refine (alive_calls _).mono ?_; rintro e w1 ⟨rfl, hg1⟩; have HG1 := Lib.hid hg1.out; clear hg1)
  refine (B1.out _ HG1.out).mono ?_
  rintro e w2 ⟨hg2, ⟨hbad, rfl⟩ | ⟨hok, hno, rfl⟩ | ⟨hok, va, c, R, hbest, hia, rfl⟩⟩
  · have HG2 := Lib.hid (grown_trans HG1.out hg2.out)
    obtain ⟨r, hr⟩ : ∃ r, wrongS l W = r := ⟨_, rfl⟩
    have hc := C1.out w2 v ends HG2.out (HE.out _ HG2.out) HM.out
    rw [costS_bad hbad, hr, show pairV (0, r) = .tuple #[.int .i64 0, .int .i64 r] from rfl] at hc
    have HC := Lib.hid hc
    rw [hr] at hbad ⊢
    have hr0 : (r == 0) = false := by simpa using hbad
    have hr1 : (r != 0) = true := by simpa using hbad
    clear hr hc hg2 hbad
    go_wp2_with (go_at_call 11; refine (HC.out).mono ?_; rintro e w3 ⟨rfl, hg3⟩; have HG3 := Lib.hid (grown_trans HG2.out hg3.out); clear hg3)
    go_ret
    exact ⟨rfl, HG3.out⟩
  · have HG2 := Lib.hid (grown_trans HG1.out hg2.out)
    have hne : (costS l W ends).2 ≠ 0 := by
      intro h0
      obtain ⟨R, c, _, h2, _⟩ := costS_is hok h0
      rw [hno] at h2; cases h2
    obtain ⟨⟨p1, p2⟩, hp⟩ : ∃ p, costS l W ends = p := ⟨_, rfl⟩
    have hc := C1.out w2 v ends HG2.out (HE.out _ HG2.out) HM.out
    rw [hp] at hc hne
    rw [show pairV (p1, p2) = .tuple #[.int .i64 p1, .int .i64 p2] from rfl] at hc
    have HC := Lib.hid hc
    have hr1 : (p2 != 0) = true := by simpa using hne
    clear hp hc hg2 hne hno hok
    go_wp2_with (go_at_call 11; refine (HC.out).mono ?_; rintro e w3 ⟨rfl, hg3⟩; have HG3 := Lib.hid (grown_trans HG2.out hg3.out); clear hg3)
    go_ret
    exact ⟨rfl, HG3.out⟩
  · have HG2 := Lib.hid (grown_trans HG1.out hg2.out)
    obtain ⟨av, cv, rfl, _⟩ := sl_open hia
    have hRl : R.length < 9223372036854775807 := by
      obtain ⟨o1, o2, o3, o4⟩ := wrongS_ok hok
      have := (path_bound o4 o1 ⟨o2, o3⟩ (Nat.le_refl _) hbest.1).2.2
      omega
    have hca := C1.out w2 _ (toI R) HG2.out hia (by rw [toI_len]; exact hRl)
    rw [costS_path hok hbest.1, show pairV (c, 0) = .tuple #[.int .i64 c, .int .i64 0] from rfl] at hca
    have HCA := Lib.hid hca
    have HIA := Lib.hid hia
    obtain ⟨⟨p1, p2⟩, hp⟩ : ∃ p, costS l W ends = p := ⟨_, rfl⟩
    have hc := fun w3 (hg : w.grownBy w3 none) => C1.out w3 v ends hg (HE.out _ hg) HM.out
    simp only [hp, show pairV (p1, p2) = .tuple #[.int .i64 p1, .int .i64 p2] from rfl] at hc
    have HC := Lib.hid hc
    by_cases h0 : p2 = 0
    · obtain ⟨R2, c2, hR2, hp2, hp1⟩ := costS_is (ends := ends) hok (by rw [hp]; exact h0)
      rw [hp] at hp1
      simp only at hp1
      subst h0 hp1 hR2
      obtain ⟨ae, ce, rfl, _⟩ := sl_open (HE.out _ HG2.out)
      have hnb := hbest.2 _ _ hp2
      have HBT := Lib.hid (fun w3 (h1 : Ils w3 (.slice ae (toI R2).length ce) (toI R2)) (h2 : Ils w3 (.slice av (toI R).length cv) (toI R)) => by
        have := better_ref p1 c ae av ce cv R2 R w3 (by rw [toI_len] at h1; exact h1) (by rw [toI_len] at h2; exact h2) (by have := HM.out; rw [toI_len] at this; exact this) hRl
        rw [hnb, ← toI_len R2, ← toI_len R] at this
        exact this)
      clear hp hc hg2 hbest hok hia hca hp2 hnb B1 C1
      have hlen : (R.map fun n : Nat => (n : Int)).length = (toI R).length := rfl
      simp only [hlen] at HCA ⊢
      go_wp2_with (first
        | (go_at_call 11; refine (HCA.out).mono ?_; rintro e w3 ⟨rfl, hg3⟩; have HG3 := Lib.hid (grown_trans HG2.out hg3.out); have HI3 := Lib.hid (HIA.out.grown hg3.out); clear hg3 HCA)
        | (go_at_call 11; refine (HC.out _ HG3.out).mono ?_; rintro e w4 ⟨rfl, hg4⟩; have HG4 := Lib.hid (grown_trans HG3.out hg4.out); have HI4 := Lib.hid (HI3.out.grown hg4.out); clear hg4)
        | (go_at_call 14; refine (HBT.out _ (HE.out _ HG4.out) HI4.out).mono ?_; rintro e w5 ⟨rfl, hg5⟩; have HG5 := Lib.hid (grown_trans HG4.out hg5.out); clear hg5))
      go_ret
      exact ⟨rfl, HG5.out⟩
    · have hr1 : (p2 != 0) = true := by simpa using h0
      clear hp hc hg2 h0 hbest hok hia hca B1 C1
      have hlen : (R.map fun n : Nat => (n : Int)).length = (toI R).length := rfl
      simp only [hlen] at HCA ⊢
      go_wp2_with (first
        | (go_at_call 11; refine (HCA.out).mono ?_; rintro e w3 ⟨rfl, hg3⟩; have HG3 := Lib.hid (grown_trans HG2.out hg3.out); clear hg3 HCA)
        | (go_at_call 11; refine (HC.out _ HG3.out).mono ?_; rintro e w4 ⟨rfl, hg4⟩; have HG4 := Lib.hid (grown_trans HG3.out hg4.out); clear hg4))
      go_ret
      exact ⟨rfl, HG4.out⟩

end Go.Proofs.Ytlinbocnhmkoeaa.SBestL
