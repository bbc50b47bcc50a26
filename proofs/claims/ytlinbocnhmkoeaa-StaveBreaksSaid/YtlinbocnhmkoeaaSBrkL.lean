/- StaveBreaks: it returns true. -/
import Derived.Test.YtlinbocnhmkoeaaSRBreak
import Derived.Test.YtlinbocnhmkoeaaSBreak
import Derived.Test.YtlinbocnhmkoeaaSBestL
namespace Go.Proofs.Ytlinbocnhmkoeaa.SBrkL
open Go Go.RowKit Go.Proofs.Ytlinbocnhmkoeaa.SMod Go.Proofs.Ytlinbocnhmkoeaa.SBest Go.Proofs.Ytlinbocnhmkoeaa.SCost Go.Proofs.Ytlinbocnhmkoeaa.SWrong Go.Proofs.Ytlinbocnhmkoeaa.SSum Go.Proofs.Ytlinbocnhmkoeaa.SLaw Go.Proofs.Ytlinbocnhmkoeaa.SBetter Go.Proofs.Ytlinbocnhmkoeaa.SQuiet Go.Proofs.Ytlinbocnhmkoeaa.SLine Go.Proofs.Ytlinbocnhmkoeaa.SBreak Go.Proofs.Ytlinbocnhmkoeaa.SBestL Go.Proofs.Ytlinbocnhmkoeaa.SRBreak Go.Proofs.Ytlinbocnhmkoeaa.Opn Go.Proofs.Ytlinbocnhmkoeaa.Hp Go.Proofs.Ytlinbocnhmkoeaa.Rd
set_option linter.unusedVariables false

set_option maxHeartbeats 1000000 in
set_option maxRecDepth 100000 in
theorem law (ao : Option Addr) (cap : Nat) (l : List Bx) (W : Int) (v : Value) (ends : List Int) (w : World) (hv : Bxs w (.slice ao l.length cap) l) (hcap : l.length ≤ cap) (he : Ils w v ends) (hm : ends.length < 9223372036854775807) :
    Calls Try.prog 3 #[.slice ao l.length cap, .int .i64 W, v] w fun e w' => e = .returned (.bool true) ∧ Hid (w.grownBy w' none) := by
  have hvg := fun w1 (hg : w.grownBy w1 none) => (Slc.grown hv hg fun _ _ h => h : Bxs w1 (.slice ao l.length cap) l)
  have W1 := Lib.hid (fun w1 (hg : w.grownBy w1 none) => wrong_calls ao cap l W w1 (hvg w1 hg))
  have W2 := Lib.hid (fun w1 (hg : w.grownBy w1 none) => ref_wrong ao cap l W w1 (hvg w1 hg))
  have C1 := Lib.hid (fun w1 (hg : w.grownBy w1 none) => cost_calls2 ao cap l W v ends w1 (hvg w1 hg) (he.grown hg) hm)
  have C2 := Lib.hid (fun w1 (hg : w.grownBy w1 none) => ref_cost ao cap l W v ends w1 (hvg w1 hg) hcap (he.grown hg) hm)
  have B1 := Lib.hid (fun w1 (hg : w.grownBy w1 none) => break_calls ao cap l W w1 (hvg w1 hg))
  have B2 := Lib.hid (fun w1 (hg : w.grownBy w1 none) (h : wrongS l W = 0) => rbreak_good ao cap l W w1 (hvg w1 hg) hcap h)
  have B3 := Lib.hid (fun w1 (hg : w.grownBy w1 none) (h : wrongS l W ≠ 0) => rbreak_bad ao cap l W w1 (hvg w1 hg) h)
  obtain ⟨n, hn⟩ : ∃ n, l.length = n := ⟨_, rfl⟩
  have HN := Lib.hid hn
  obtain ⟨r, hr⟩ : ∃ r, wrongS l W = r := ⟨_, rfl⟩
  obtain ⟨⟨p1, p2⟩, hp⟩ : ∃ p, costS l W ends = p := ⟨_, rfl⟩
  simp only [hn, hr, hp, show pairV (p1, p2) = .tuple #[.int .i64 p1, .int .i64 p2] from rfl] at W1 W2 C1 C2 B1 B2 B3
  rw [hn]
  have HR := Lib.hid hr
  clear hvg hv he hm hn hr hp hcap
  go_enter Try.func3, Try.ntmps3
  go_wp2_with (first
    | (go_at_call 6; refine (W1.out _ (grown_refl _ _)).mono ?_; rintro e w1 ⟨rfl, hg1⟩; have HG1 := Lib.hid hg1.out; clear hg1)
    | (go_at_call 7; refine (W2.out _ HG1.out).mono ?_; rintro e w2 ⟨rfl, hg2⟩; have HG2 := Lib.hid (grown_trans HG1.out hg2.out); clear hg2))
  refine (B1.out _ HG2.out).mono ?_
  rintro e w3 ⟨hg3, ⟨hbad, rfl⟩ | ⟨hok, hno, rfl⟩ | ⟨hok, va, c, R, hbest, hia, rfl⟩⟩
  · have HG3 := Lib.hid (grown_trans HG2.out hg3.out)
    rw [HR.out] at hbad ⊢
    have A3 := Lib.hid (B3.out w3 HG3.out hbad)
    have HSA := Lib.hid (fun w4 => same_calls none none 0 0 [] w4 (.inr ⟨none, 0, rfl, rfl⟩) (.inr ⟨none, 0, rfl, rfl⟩) (by decide))
    clear hg3 hbad B1 B2 B3 W1 W2
    go_wp2_with (first
      | (go_at_call 9; refine (A3.out).mono ?_; rintro e w4 ⟨rfl, hg4⟩; have HG4 := Lib.hid (grown_trans HG3.out hg4.out); clear hg4)
      | (go_at_call 10; refine (HSA.out _).mono ?_; rintro e w5 ⟨rfl, hg5⟩; have HG5 := Lib.hid (grown_trans HG4.out hg5.out); clear hg5)
      | (go_at_call 11; refine (C1.out _ HG5.out).mono ?_; rintro e w6 ⟨rfl, hg6⟩; have HG6 := Lib.hid (grown_trans HG5.out hg6.out); clear hg6)
      | (go_at_call 12; refine (C2.out _ HG6.out).mono ?_; rintro e w7 ⟨rfl, hg7⟩; have HG7 := Lib.hid (grown_trans HG6.out hg7.out); clear hg7))
    go_ret
    exact ⟨rfl, HG7.out⟩
  · have HG3 := Lib.hid (grown_trans HG2.out hg3.out)
    have A3 := Lib.hid (B2.out w3 HG3.out (by rw [← HR.out]; exact hok))
    have HSA := Lib.hid (fun w4 => same_calls none none 0 0 [] w4 (.inr ⟨none, 0, rfl, rfl⟩) (.inr ⟨none, 0, rfl, rfl⟩) (by decide))
    have HNO := Lib.hid hno
    clear hg3 hok hno B1 B2 B3 W1 W2
    go_wp2_with fail
    refine (A3.out).mono ?_
    rintro e w4 ⟨hg4, ⟨_, rfl⟩ | ⟨v2, c2, R2, hb2, _⟩⟩
    · have HG4 := Lib.hid (grown_trans HG3.out hg4.out)
      clear hg4 A3
      go_wp2_with (first
        | (go_at_call 10; refine (HSA.out _).mono ?_; rintro e w5 ⟨rfl, hg5⟩; have HG5 := Lib.hid (grown_trans HG4.out hg5.out); clear hg5)
        | (go_at_call 11; refine (C1.out _ HG5.out).mono ?_; rintro e w6 ⟨rfl, hg6⟩; have HG6 := Lib.hid (grown_trans HG5.out hg6.out); clear hg6)
        | (go_at_call 12; refine (C2.out _ HG6.out).mono ?_; rintro e w7 ⟨rfl, hg7⟩; have HG7 := Lib.hid (grown_trans HG6.out hg7.out); clear hg7))
      go_ret
      exact ⟨rfl, HG7.out⟩
    · have := HNO.out R2
      rw [HN.out, hb2.1] at this
      cases this
  · have HG3 := Lib.hid (grown_trans HG2.out hg3.out)
    have A3 := Lib.hid (B2.out w3 HG3.out (by rw [← HR.out]; exact hok))
    have HB := Lib.hid hbest
    have hRl : R.length < 9223372036854775807 := by
      obtain ⟨o1, o2, o3, o4⟩ := wrongS_ok hok
      have := (path_bound o4 o1 ⟨o2, o3⟩ (Nat.le_refl _) hbest.1).2.2
      omega
    have HIA := Lib.hid hia
    clear hg3 hok hbest B1 B2 B3 W1 W2
    obtain ⟨av, cv, rfl, _⟩ := sl_open hia
    have hlen : (R.map fun n : Nat => (n : Int)).length = R.length := by simp
    rw [hlen] at HIA ⊢
    clear hia hlen
    go_wp2_with fail
    refine (A3.out).mono ?_
    rintro e w4 ⟨hg4, ⟨hno, rfl⟩ | ⟨v2, c2, R2, hb2, hi2, rfl⟩⟩
    · have := HB.out.1
      rw [HN.out, hno R] at this
      cases this
    · rw [← HN.out] at hb2
      obtain ⟨rfl, rfl⟩ := HB.out.unique hb2
      have HG4 := Lib.hid (grown_trans HG3.out hg4.out)
      have hi1 := HIA.out.grown hg4.out
      obtain ⟨a2, k2, rfl, _⟩ := sl_open hi2
      rw [toI_len] at hi2 ⊢
      have HSA := Lib.hid (same_calls av a2 cv k2 R w4 hi1 hi2 hRl)
      clear hg4 A3 hb2 hi1 hi2 HB
      go_wp2_with (first
        | (go_at_call 10; refine (HSA.out).mono ?_; rintro e w5 ⟨rfl, hg5⟩; have HG5 := Lib.hid (grown_trans HG4.out hg5.out); clear hg5)
        | (go_at_call 11; refine (C1.out _ HG5.out).mono ?_; rintro e w6 ⟨rfl, hg6⟩; have HG6 := Lib.hid (grown_trans HG5.out hg6.out); clear hg6)
        | (go_at_call 12; refine (C2.out _ HG6.out).mono ?_; rintro e w7 ⟨rfl, hg7⟩; have HG7 := Lib.hid (grown_trans HG6.out hg7.out); clear hg7))
      go_ret
      exact ⟨rfl, HG7.out⟩

end Go.Proofs.Ytlinbocnhmkoeaa.SBrkL
