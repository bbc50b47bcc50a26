/- The reference's Better; alive. -/
import Derived.Test.YtlinbocnhmkoeaaSLaw
import Derived.BigRegion
namespace Go.Proofs.Ytlinbocnhmkoeaa.SBetter
open Go Go.RowKit Go.Proofs.Ytlinbocnhmkoeaa.SMod Go.Proofs.Ytlinbocnhmkoeaa.SBest Go.Proofs.Ytlinbocnhmkoeaa.SCost Go.Proofs.Ytlinbocnhmkoeaa.SSum Go.Proofs.Ytlinbocnhmkoeaa.SLaw Go.Proofs.Ytlinbocnhmkoeaa.Opn Go.Proofs.Ytlinbocnhmkoeaa.Hp Go.Proofs.Ytlinbocnhmkoeaa.Rd
set_option linter.unusedVariables false

theorem longer_step {A B : List Nat} {k x y : Nat} (hx : A[k]? = some x) (hy : B[k]? = some y) : longer (A.drop k) (B.drop k) = if x = y then longer (A.drop (k + 1)) (B.drop (k + 1)) else decide (y < x) := by
  obtain ⟨h1, h2⟩ := List.getElem?_eq_some_iff.1 hx
  obtain ⟨h3, h4⟩ := List.getElem?_eq_some_iff.1 hy
  rw [List.drop_eq_getElem_cons h1, List.drop_eq_getElem_cons h3, h2, h4]
  rfl

theorem at_list {w w' : World} {ao : Option Addr} {n cap k x : Nat} {A : List Nat} (h : Ils w (.slice ao n cap) (toI A)) (hg : w.grownBy w' none) (hk : A[k]? = some x) :
    ∃ b off, ao = some ⟨b, off, none⟩ ∧ w'.cell? ⟨b, off + k, none⟩ = some (.int .i64 (x : Int)) := by
  obtain ⟨ao', cap', hv, hel⟩ := sl_open h
  simp only [Value.slice.injEq] at hv
  obtain ⟨rfl, _, _⟩ := hv
  obtain ⟨b, off, u, h1, h2, h3⟩ := hel k (x : Int) (by unfold toI; rw [List.getElem?_map, hk]; rfl)
  subst h3
  exact ⟨b, off, h1, hg.cell h2 (by simp)⟩

set_option maxHeartbeats 1000000 in
set_option maxRecDepth 100000 in
theorem better_ref (c d : Int) (a1 a2 : Option Addr) (c1 c2 : Nat) (A B : List Nat) (w : World) (h1 : Ils w (.slice a1 A.length c1) (toI A)) (h2 : Ils w (.slice a2 B.length c2) (toI B)) (hb : A.length < 9223372036854775807) (hb2 : B.length < 9223372036854775807) :
    Calls Try.prog 14 #[.int .i64 c, .slice a1 A.length c1, .int .i64 d, .slice a2 B.length c2] w fun e w' => e = .returned (.bool (better c A d B)) ∧ Hid (w.grownBy w' none) := by
  have HG0 : Hid (w.grownBy w none) := grown_refl _ _
  have H1 := Lib.hid h1
  have H2 := Lib.hid h2
  obtain ⟨n, hn⟩ : ∃ n, A.length = n := ⟨_, rfl⟩
  obtain ⟨m, hm⟩ : ∃ m, B.length = m := ⟨_, rfl⟩
  unfold better
  rw [hn] at hb H1
  rw [hm] at hb2 H2
  rw [hn, hm]
  by_cases q1 : c = d
  · subst q1
    rw [if_neg (by simp)]
    by_cases q2 : n = m
    · subst q2
      rw [if_neg (by simp)]
      have HN := Lib.hid hn
      have HM := Lib.hid hm
      obtain ⟨r, hr⟩ : ∃ r, longer A B = r := ⟨_, rfl⟩
      have HR0 : Hid (r = longer (A.drop 0) (B.drop 0)) := by unfold Hid; rw [← hr]; rfl
      rw [hr]
      clear hn hm hr h1 h2
      go_enter Try.func14, Try.ntmps14
      go_wp2_with fail
      go_loopw [28] (fun i wr => ∃ k : Nat, k ≤ n ∧ i = .int .i64 k ∧ Hid (r = longer (A.drop k) (B.drop k)) ∧ Hid (w.grownBy wr none)) (fun i _ => n - (intOf i).toNat)
      case atStart => exact ⟨0, Nat.zero_le _, rfl, HR0, HG0⟩
      case round =>
        clear HR0
        obtain ⟨k, hk, rfl, HR, HG⟩ := hrel
        by_cases hlt : k < n
        · obtain ⟨x, hx⟩ : ∃ x, A[k]? = some x := ⟨A[k]'(by rw [HN.out]; exact hlt), List.getElem?_eq_getElem _⟩
          obtain ⟨y, hy⟩ : ∃ y, B[k]? = some y := ⟨B[k]'(by rw [HM.out]; exact hlt), List.getElem?_eq_getElem _⟩
          have hs := longer_step hx hy
          obtain ⟨b1, o1, rfl, e1⟩ := at_list H1.out HG.out hx
          obtain ⟨b2, o2, rfl, e2⟩ := at_list H2.out HG.out hy
          clear hx hy
          by_cases hxy : x = y
          · subst hxy
            have HX : Hid (r = longer (A.drop (k + 1)) (B.drop (k + 1))) := by unfold Hid; rw [HR.out, hs, if_pos rfl]
            have hne : ((x : Int) != x) = false := by simp
            clear hs HR
            go_upto_region 8 with fail
            go_region
            have HG2 := Lib.hid (grown_drew HG.out)
            go_wp2_with fail
            go_roundw
            case rel => exact ⟨k + 1, by omega, by go_num, HX, HG2⟩
            case measure => simp [intOf]; omega
          · have HX : Hid (r = decide (y < x)) := by
              unfold Hid; rw [HR.out, hs, if_neg hxy]
            have hne : ((x : Int) != y) = true := by simp; omega
            clear hs HR
            go_upto_region 8 with fail
            go_region
            have HG2 := Lib.hid (grown_drew HG.out)
            go_upto_region 9 with fail
            go_region
            have HG3 := Lib.hid (grown_drew HG2.out)
            go_wp2_with fail
            go_ret
            exact ⟨by rw [HX.out]; rfl, HG3.out⟩
        · obtain rfl : k = n := by omega
          have HX : Hid (r = false) := by
            unfold Hid
            rw [HR.out, List.drop_eq_nil_of_le (by rw [HN.out]; exact Nat.le_refl _)]
            rfl
          clear HR
          go_wp2_with fail
          go_ret
          exact ⟨by rw [HX.out]; rfl, HG⟩
    · rw [if_pos q2]
      have q3 : ((n : Int) != m) = true := by simp; omega
      have q4 : decide (n < m) = decide ((n : Int) < m) := by rw [Bool.eq_iff_iff]; simp
      rw [q4]
      clear h1 h2 hn hm
      go_enter Try.func14, Try.ntmps14
      go_wp2_with fail
      go_ret
      exact ⟨rfl, HG0⟩
  · rw [if_pos q1]
    have q3 : (c != d) = true := by simpa using q1
    clear h1 h2 hn hm
    go_enter Try.func14, Try.ntmps14
    go_wp2_with fail
    go_ret
    exact ⟨rfl, HG0⟩

end Go.Proofs.Ytlinbocnhmkoeaa.SBetter
