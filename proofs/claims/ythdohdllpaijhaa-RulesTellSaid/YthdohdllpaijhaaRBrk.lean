/- Breaks, the reference's: the walk. -/
import Derived.Test.YthdohdllpaijhaaRSnd
import Derived.Test.YthdohdllpaijhaaRMay
import Derived.Test.YthdohdllpaijhaaRCheck
namespace Go.Proofs.Ythdohdllpaijhaa.RBrk
open Go Go.RowKit Go.Proofs.Ythdohdllpaijhaa.RMod Go.Proofs.Ythdohdllpaijhaa.RAlone Go.Proofs.Ythdohdllpaijhaa.RSnd Go.Proofs.Ythdohdllpaijhaa.RMay Go.Proofs.Ythdohdllpaijhaa.RCheck Go.Proofs.Ythdohdllpaijhaa.Hp Go.Proofs.Ythdohdllpaijhaa.Rd
set_option linter.unusedVariables false
set_option linter.unusedSimpArgs false

def badS (s : Int) : Prop := s = 1 ∨ s = 2 ∨ s = 5 ∨ s = 6 ∨ s = 10 ∨ s = 11
instance (s : Int) : Decidable (badS s) := by unfold badS; exact inferInstance

theorem good_bad (a b : Int) (h : 0 ≤ apartZ a b) : goodB a b = false ↔ badS (apartZ a b % 12) := by
  unfold goodB badS
  simp only [decide_eq_false_iff_not]
  omega
theorem perf_int (a b : Int) : perfB a b = decide (apartZ a b % 12 = 0 ∨ apartZ a b % 12 = 7) := rfl

set_option maxHeartbeats 6000000 in
set_option maxRecDepth 100000 in
theorem breaks_calls (r : Ru) (a1 a2 : Option Addr) (c1 c2 : Nat) (g l : List Int) (i : Nat) (w : World) (hok : OkG r g) (hv : Ils w (.slice a1 g.length c1) g) (hl : Ils w (.slice a2 l.length c2) l) (hi : i < g.length) (hil : i < l.length)
    (hl63 : l.length ≤ 64) (hk : 0 ≤ at_ l i ∧ at_ l i ≤ 127) (hk1 : 0 < i → 0 ≤ at_ l (i - 1) ∧ at_ l (i - 1) ≤ 127) :
    Calls Try.prog 21 #[.agg #[.int .i64 r.low, .int .i64 r.high, .bool r.above, .int .i64 r.leap, .int .i64 r.classes], .slice a1 g.length c1, .slice a2 l.length c2, .int .i64 (i : Int)] w
      fun e w' => e = .returned (.int .i64 (brkZ r g l i)) ∧ Hid (w.grownBy w' none) := by
  obtain ⟨b1, o1, rfl, hc1⟩ := giv_at hv hi
  obtain ⟨b2, o2, rfl, hc2⟩ := giv_at hl hil
  have HP1 : Hid (0 < i → w.cell? ⟨b1, o1 + (i - 1), none⟩ = some (.int .i64 (at_ g (i - 1)))) := fun h => by
    obtain ⟨b, o, e, h⟩ := giv_at hv (i := i - 1) (by omega)
    simp only [Option.some.injEq, Addr.mk.injEq, and_true] at e
    obtain ⟨rfl, rfl⟩ := e
    exact h
  have HP2 : Hid (0 < i → w.cell? ⟨b2, o2 + (i - 1), none⟩ = some (.int .i64 (at_ l (i - 1)))) := fun h => by
    obtain ⟨b, o, e, h⟩ := giv_at hl (i := i - 1) (by omega)
    simp only [Option.some.injEq, Addr.mk.injEq, and_true] at e
    obtain ⟨rfl, rfl⟩ := e
    exact h
  have HP3 : Hid (1 < i → w.cell? ⟨b2, o2 + (i - 2), none⟩ = some (.int .i64 (at_ l (i - 2)))) := fun h => by
    obtain ⟨b, o, e, h⟩ := giv_at hl (i := i - 2) (by omega)
    simp only [Option.some.injEq, Addr.mk.injEq, and_true] at e
    obtain ⟨rfl, rfl⟩ := e
    exact h
  have hx := at_mem hok i
  have hx1 := at_mem hok (i - 1)
  obtain ⟨⟨l0, l1⟩, _, _, _, _, _, cl0, cl1⟩ := hok
  have SC := Lib.hid (fun w' => sound_calls (at_ l i) (at_ g i) w' hk hx)
  have SC1 := Lib.hid (fun h w' => sound_calls (at_ l (i - 1)) (at_ g (i - 1)) w' (hk1 h) hx1)
  have AC := Lib.hid (fun h w' => abs_calls (at_ l i - at_ l (i - 1)) w' (by have := hk1 h; omega))
  rw [apart_abs] at AC
  have MC := Lib.hid (fun w' => may_calls r.classes (at_ l i) w' ⟨cl0, by omega⟩ hk)
  have hd0 := (apart_le hk hx).1
  have HE : Hid (brkZ r g l i = if at_ l i < r.low ∨ r.high < at_ l i ∨ mayB r.classes (at_ l i) = false then 1 else if r.above = true ∧ at_ l i < at_ g i then 2
      else if badS (apartZ (at_ l i) (at_ g i) % 12) then 3
      else if i = 0 ∧ apartZ (at_ l i) (at_ g i) % 12 ≠ 0 ∧ apartZ (at_ l i) (at_ g i) % 12 ≠ 7 ∨ i + 1 = g.length ∧ apartZ (at_ l i) (at_ g i) % 12 ≠ 0 then 4
      else if i = 0 then 0
      else if r.leap < apartZ (at_ l i) (at_ l (i - 1)) ∨ apartZ (at_ l i) (at_ l (i - 1)) = 6 then 5
      else if 0 < apartZ (at_ l i) (at_ l (i - 1)) ∧ (apartZ (at_ l i) (at_ g i) % 12 = 0 ∨ apartZ (at_ l i) (at_ g i) % 12 = 7) ∧ apartZ (at_ l (i - 1)) (at_ g (i - 1)) % 12 = apartZ (at_ l i) (at_ g i) % 12 then 6
      else if 1 < i ∧ apartZ (at_ l i) (at_ l (i - 1)) = 0 ∧ at_ l (i - 2) = at_ l i then 7 else 0) := by
    unfold Hid brkZ
    have ea : aloneZ r g i (at_ l i) = if at_ l i < r.low ∨ r.high < at_ l i ∨ mayB r.classes (at_ l i) = false then 1 else if r.above = true ∧ at_ l i < at_ g i then 2
      else if badS (apartZ (at_ l i) (at_ g i) % 12) then 3
      else if i = 0 ∧ apartZ (at_ l i) (at_ g i) % 12 ≠ 0 ∧ apartZ (at_ l i) (at_ g i) % 12 ≠ 7 ∨ i + 1 = g.length ∧ apartZ (at_ l i) (at_ g i) % 12 ≠ 0 then 4 else 0 := by
      unfold aloneZ
      simp only [good_bad _ _ hd0, perf_int, decide_eq_false_iff_not, not_or]
    rw [ea]
    by_cases p1 : at_ l i < r.low ∨ r.high < at_ l i ∨ mayB r.classes (at_ l i) = false
    · rw [if_pos p1, if_neg (by omega), if_pos p1]
    rw [if_neg p1, if_neg p1]
    by_cases p2 : r.above = true ∧ at_ l i < at_ g i
    · rw [if_pos p2, if_neg (by omega), if_pos p2]
    rw [if_neg p2, if_neg p2]
    by_cases p3 : badS (apartZ (at_ l i) (at_ g i) % 12)
    · rw [if_pos p3, if_neg (by omega), if_pos p3]
    rw [if_neg p3, if_neg p3]
    by_cases p4 : i = 0 ∧ apartZ (at_ l i) (at_ g i) % 12 ≠ 0 ∧ apartZ (at_ l i) (at_ g i) % 12 ≠ 7 ∨ i + 1 = g.length ∧ apartZ (at_ l i) (at_ g i) % 12 ≠ 0
    · rw [if_pos p4, if_neg (by omega), if_pos p4]
    rw [if_neg p4, if_neg p4]
    by_cases p5 : i = 0
    · rw [if_neg (by omega), if_pos p5]
    rw [if_pos (by omega), if_neg p5]
    unfold behindZ
    simp only [perf_int, decide_eq_true_eq]
    by_cases p6 : r.leap < apartZ (at_ l i) (at_ l (i - 1)) ∨ apartZ (at_ l i) (at_ l (i - 1)) = 6
    · rw [if_pos p6, if_pos p6]
    rw [if_neg p6, if_neg p6]
    have e7 : (0 < apartZ (at_ l i) (at_ l (i - 1)) ∧ (apartZ (at_ l i) (at_ g i) % 12 = 0 ∨ apartZ (at_ l i) (at_ g i) % 12 = 7) ∧ apartZ (at_ l i) (at_ g i) % 12 = apartZ (at_ l (i - 1)) (at_ g (i - 1)) % 12) ↔
      (0 < apartZ (at_ l i) (at_ l (i - 1)) ∧ (apartZ (at_ l i) (at_ g i) % 12 = 0 ∨ apartZ (at_ l i) (at_ g i) % 12 = 7) ∧ apartZ (at_ l (i - 1)) (at_ g (i - 1)) % 12 = apartZ (at_ l i) (at_ g i) % 12) := by
      constructor <;> rintro ⟨h1, h2, h3⟩ <;> exact ⟨h1, h2, h3.symm⟩
    have e8 : (apartZ (at_ l i) (at_ l (i - 1)) = 0 ∧ sameB l i = true) ↔ (1 < i ∧ apartZ (at_ l i) (at_ l (i - 1)) = 0 ∧ at_ l (i - 2) = at_ l i) := by
      unfold sameB
      simp only [Bool.and_eq_true, decide_eq_true_eq, beq_iff_eq]
      unfold apartZ
      constructor
      · rintro ⟨h1, h2, h3⟩; exact ⟨by omega, h1, by omega⟩
      · rintro ⟨h1, h2, h3⟩; exact ⟨h2, by omega, by omega⟩
    simp only [e7, e8]
  obtain ⟨R, hR⟩ : ∃ R, brkZ r g l i = R := ⟨_, rfl⟩
  rw [hR] at HE ⊢
  have hdd : 0 < i → 0 ≤ apartZ (at_ l i) (at_ l (i - 1)) := fun h => (apart_le hk (hk1 h)).1
  have hs0 : 0 ≤ apartZ (at_ l i) (at_ g i) % 12 ∧ apartZ (at_ l i) (at_ g i) % 12 < 12 := by omega
  obtain ⟨n, hn⟩ : ∃ n, g.length = n := ⟨_, rfl⟩
  obtain ⟨m, hm⟩ : ∃ m, l.length = m := ⟨_, rfl⟩
  obtain ⟨k, hkk⟩ : ∃ k, at_ l i = k := ⟨_, rfl⟩
  obtain ⟨x, hxx⟩ : ∃ x, at_ g i = x := ⟨_, rfl⟩
  obtain ⟨lk, hlk⟩ : ∃ lk, at_ l (i - 1) = lk := ⟨_, rfl⟩
  obtain ⟨y, hy⟩ : ∃ y, at_ g (i - 1) = y := ⟨_, rfl⟩
  obtain ⟨l2, hl2⟩ : ∃ l2, at_ l (i - 2) = l2 := ⟨_, rfl⟩
  rw [hn] at HE l0 l1 hi ⊢
  rw [hm] at hil hl63 ⊢
  rw [hkk] at HE hc2 SC AC MC hk hdd hs0
  rw [hxx] at HE hc1 SC hx hs0
  rw [hlk] at HE HP2 SC1 AC hk1 hdd
  rw [hy] at HE HP1 SC1 hx1
  rw [hl2] at HE HP3
  obtain ⟨s, hs⟩ : ∃ s, apartZ k x % 12 = s := ⟨_, rfl⟩
  obtain ⟨d, hd⟩ : ∃ d, apartZ k lk = d := ⟨_, rfl⟩
  obtain ⟨s1, hs1⟩ : ∃ s1, apartZ lk y % 12 = s1 := ⟨_, rfl⟩
  obtain ⟨mb, hmb⟩ : ∃ mb, mayB r.classes k = mb := ⟨_, rfl⟩
  rw [hs] at HE SC hs0
  rw [hd] at HE AC hdd
  rw [hs1] at HE SC1
  rw [hmb] at HE MC
  clear hR hn hm hkk hxx hlk hy hl2 hs hd hs1 hmb hv hl hd0
  obtain ⟨s0, s12⟩ := hs0
  have HDD := Lib.hid hdd
  have HK1 := Lib.hid hk1
  clear hdd hk1
  obtain ⟨k0, k127⟩ := hk
  obtain ⟨x0, x127⟩ := hx
  obtain ⟨low, high, above, leap, classes⟩ := r
  simp only at HE MC cl0 cl1 ⊢
  have HG0 : Hid (w.grownBy (w.alloc (.cells #[.int .i64 low, .int .i64 high, .bool above, .int .i64 leap, .int .i64 classes] 23)) none) := grown_alloc (grown_refl _ _) _
  obtain ⟨gb, hgb⟩ : ∃ gb, w.heap.size = gb := ⟨_, rfl⟩
  obtain ⟨wn, hwn⟩ : ∃ wn, w.alloc (.cells #[.int .i64 low, .int .i64 high, .bool above, .int .i64 leap, .int .i64 classes] 23) = wn := ⟨_, rfl⟩
  have HR0 : Hid (wn.heap[gb]? = some (.cells #[.int .i64 low, .int .i64 high, .bool above, .int .i64 leap, .int .i64 classes] 23 (0, 0))) := by unfold Hid; rw [← hwn, ← hgb]; exact heap_alloc_new _ _
  rw [hwn] at HG0
  have h1n := grown_cell HG0.out hc1 (by simp)
  have h2n := grown_cell HG0.out hc2 (by simp)
  have HC1 := Lib.hid hc1
  have HC2 := Lib.hid hc2
  have HGB := Lib.hid hgb
  have HWN := Lib.hid hwn
  clear hc1 hc2 hgb hwn
  go_enter Try.func21, Try.ntmps21
  go_upto_region 1 with fail
  simp only [HGB.out, HWN.out]
  go_upto_region 3 with (go_at_call 27; refine (SC.out _).mono ?_; rintro e w1 ⟨rfl, rfl⟩)
  obtain ⟨wn, rfl⟩ : ∃ wn : World, wn = w1 := ⟨_, rfl⟩
  have r0 := cell_of HR0.out 0
  have r1 := cell_of HR0.out 1
  have r4 := cell_of HR0.out 4
  go_cut [38] from 22 to 38 (fun c wx => c = .bool (decide (k < low ∨ high < k ∨ mb = false)) ∧ wx = wn)
  case first =>
    clear HE HG0 HP1 HP2 HP3 HK1 HDD SC SC1 AC HWN HC1 HC2 h1n h2n
    by_cases p1 : k < low
    · go_wp2_with fail
      go_meet
      exact ⟨congrArg Value.bool (decide_eq_true (.inl p1)).symm, rfl⟩
    by_cases p2 : high < k
    · go_wp2_with fail
      go_meet
      exact ⟨congrArg Value.bool (decide_eq_true (.inr (.inl p2))).symm, rfl⟩
    cases mb
    · go_wp2_with (go_at_call 7; refine (MC.out _).mono ?_; rintro e w' ⟨rfl, rfl⟩)
      go_meet
      exact ⟨by simp, rfl⟩
    · go_wp2_with (go_at_call 7; refine (MC.out _).mono ?_; rintro e w' ⟨rfl, rfl⟩)
      go_meet
      exact ⟨congrArg Value.bool (decide_eq_false (by simp; omega)).symm, rfl⟩
  case rest =>
    obtain ⟨rfl, rfl⟩ := hcut
    clear r0 r1 r4 MC
    by_cases b1 : k < low ∨ high < k ∨ mb = false
    · have HX : Hid (R = 1) := by unfold Hid; rw [HE.out, if_pos b1]
      simp only [b1, decide_true]
      clear HE b1
      go_wp2_with fail
      go_ret
      exact ⟨by rw [HX.out]; rfl, HG0.out⟩
    have HE1 := Lib.hid ((HE.out).trans (if_neg b1))
    rw [decide_eq_false b1]
    clear HE b1
    have r2 := cell_of HR0.out 2
    go_upto_region 5 with fail
    go_cut [48] from 39 to 48 (fun c wx => c = .bool (decide (above = true ∧ k < x)) ∧ wx = wc)
    case first =>
      clear HE1 HG0 HP1 HP2 HP3 HK1 HDD SC SC1 AC HWN HC1 HC2 h2n
      cases above
      · go_wp2_with fail
        go_meet
        exact ⟨by simp, rfl⟩
      · by_cases p1 : k < x
        · go_wp2_with fail
          go_meet
          exact ⟨by simp [p1], rfl⟩
        · go_wp2_with fail
          go_meet
          exact ⟨by simp [p1], rfl⟩
    case rest =>
      obtain ⟨rfl, rfl⟩ := hcut
      obtain ⟨wn, rfl⟩ : ∃ wn : World, wn = wc := ⟨_, rfl⟩
      clear r2
      by_cases b2 : above = true ∧ k < x
      · have HX : Hid (R = 2) := by unfold Hid; rw [HE1.out, if_pos b2]
        rw [decide_eq_true b2]
        clear HE1 b2
        go_wp2_with fail
        go_ret
        exact ⟨by rw [HX.out]; rfl, HG0.out⟩
      have HE2 := Lib.hid ((HE1.out).trans (if_neg b2))
      rw [decide_eq_false b2]
      clear HE1 b2
      go_upto_region 7 with fail
      go_cut [70] from 49 to 70 (fun c wx => c = .bool (decide (badS s)) ∧ wx = wn)
      case first =>
        clear HE2 HG0 HP1 HP2 HP3 HK1 HDD SC SC1 AC HWN HC1 HC2 h1n h2n
        by_cases q1 : s = 1
        · subst q1
          go_wp2_with fail
          go_meet
          exact ⟨rfl, rfl⟩
        by_cases q2 : s = 2
        · subst q2
          go_wp2_with fail
          go_meet
          exact ⟨rfl, rfl⟩
        by_cases q5 : s = 5
        · subst q5
          go_wp2_with fail
          go_meet
          exact ⟨rfl, rfl⟩
        by_cases q6 : s = 6
        · subst q6
          go_wp2_with fail
          go_meet
          exact ⟨rfl, rfl⟩
        by_cases q10 : s = 10
        · subst q10
          go_wp2_with fail
          go_meet
          exact ⟨rfl, rfl⟩
        by_cases q11 : s = 11
        · subst q11
          go_wp2_with fail
          go_meet
          exact ⟨rfl, rfl⟩
        have HN : Hid (¬ badS s) := by unfold Hid badS; omega
        have e1 : (s == 1) = false := by simpa using q1
        have e2 : (s == 2) = false := by simpa using q2
        have e5 : (s == 5) = false := by simpa using q5
        have e6 : (s == 6) = false := by simpa using q6
        have e10 : (s == 10) = false := by simpa using q10
        have e11 : (s == 11) = false := by simpa using q11
        go_wp2_with fail
        go_meet
        exact ⟨by rw [decide_eq_false HN.out], rfl⟩
      case rest =>
        obtain ⟨rfl, rfl⟩ := hcut
        obtain ⟨wn, rfl⟩ : ∃ wn : World, wn = wc := ⟨_, rfl⟩
        by_cases b3 : badS s
        · have HX : Hid (R = 3) := by unfold Hid; rw [HE2.out, if_pos b3]
          rw [decide_eq_true b3]
          clear HE2 b3
          go_wp2_with fail
          go_ret
          exact ⟨by rw [HX.out]; rfl, HG0.out⟩
        have HE3 := Lib.hid ((HE2.out).trans (if_neg b3))
        rw [decide_eq_false b3]
        clear HE2 b3
        go_upto_region 9 with fail
        obtain ⟨B4, hB4⟩ : ∃ B4, decide (i = 0 ∧ s ≠ 0 ∧ s ≠ 7 ∨ i + 1 = n ∧ s ≠ 0) = B4 := ⟨_, rfl⟩
        have HB4 := Lib.hid hB4
        clear hB4
        go_cut [91] from 71 to 91 (fun c wx => c = .bool B4 ∧ wx = wn)
        case first =>
          clear HE3 HG0 HP1 HP2 HP3 HK1 HDD SC SC1 AC HWN HC1 HC2 h1n h2n
          by_cases i0 : i = 0
          · subst i0
            by_cases s0' : s = 0
            · subst s0'
              have HX : Hid (B4 = false) := by unfold Hid; rw [← HB4.out]; simp
              by_cases n1 : n = 1
              · subst n1
                go_wp2_with fail
                go_meet
                exact ⟨by rw [HX.out], rfl⟩
              · have e1 : ((0 : Int) == (n : Int) - 1) = false := by rw [beq_eq_false_iff_ne]; omega
                have e2 : ((n : Int) - 1 == 0) = false := by rw [beq_eq_false_iff_ne]; omega
                go_wp2_with fail
                go_meet
                exact ⟨by rw [HX.out], rfl⟩
            by_cases s7' : s = 7
            · subst s7'
              by_cases n1 : n = 1
              · subst n1
                have HX : Hid (B4 = true) := by unfold Hid; rw [← HB4.out]; simp
                go_wp2_with fail
                go_meet
                exact ⟨by rw [HX.out], rfl⟩
              · have HX : Hid (B4 = false) := by unfold Hid; rw [← HB4.out]; simp; omega
                have e1 : ((0 : Int) == (n : Int) - 1) = false := by rw [beq_eq_false_iff_ne]; omega
                have e2 : ((n : Int) - 1 == 0) = false := by rw [beq_eq_false_iff_ne]; omega
                go_wp2_with fail
                go_meet
                exact ⟨by rw [HX.out], rfl⟩
            have HX : Hid (B4 = true) := by unfold Hid; rw [← HB4.out]; simp [s0', s7']
            have e1 : (s != 0) = true := by simpa using s0'
            have e2 : (s != 7) = true := by simpa using s7'
            go_wp2_with fail
            go_meet
            exact ⟨by rw [HX.out], rfl⟩
          have e0 : ((i : Int) == 0) = false := by rw [beq_eq_false_iff_ne]; omega
          by_cases n1 : i + 1 = n
          · have e1 : ((i : Int) == (n : Int) - 1) = true := by rw [beq_iff_eq]; omega
            have HN1 := Lib.hid n1
            clear n1
            by_cases s0' : s = 0
            · subst s0'
              have HX : Hid (B4 = false) := by unfold Hid; rw [← HB4.out]; simp
              go_wp2_with fail
              go_meet
              exact ⟨by rw [HX.out], rfl⟩
            · have e2 : (s != 0) = true := by simpa using s0'
              have HX : Hid (B4 = true) := by unfold Hid; rw [← HB4.out]; simp [s0', HN1.out]
              go_wp2_with fail
              go_meet
              exact ⟨by rw [HX.out], rfl⟩
          · have e1 : ((i : Int) == (n : Int) - 1) = false := by rw [beq_eq_false_iff_ne]; omega
            have HX : Hid (B4 = false) := by unfold Hid; rw [← HB4.out]; simp [i0, n1]
            go_wp2_with fail
            go_meet
            exact ⟨by rw [HX.out], rfl⟩
        case rest =>
          obtain ⟨rfl, rfl⟩ := hcut
          obtain ⟨wn, rfl⟩ : ∃ wn : World, wn = wc := ⟨_, rfl⟩
          by_cases b4 : i = 0 ∧ s ≠ 0 ∧ s ≠ 7 ∨ i + 1 = n ∧ s ≠ 0
          · have HX : Hid (R = 4) := by unfold Hid; rw [HE3.out, if_pos b4]
            obtain rfl : true = B4 := by rw [← HB4.out, decide_eq_true b4]
            clear HE3 b4 HB4
            go_wp2_with fail
            go_ret
            exact ⟨by rw [HX.out]; rfl, HG0.out⟩
          have HE4 := Lib.hid ((HE3.out).trans (if_neg b4))
          obtain rfl : false = B4 := by rw [← HB4.out, decide_eq_false b4]
          clear HE3 b4 HB4
          by_cases i0 : i = 0
          · have HX : Hid (R = 0) := by unfold Hid; rw [HE4.out, if_pos i0]
            subst i0
            clear HE4
            go_wp2_with fail
            go_ret
            exact ⟨by rw [HX.out]; rfl, HG0.out⟩
          have HE5 := Lib.hid ((HE4.out).trans (if_neg i0))
          clear HE4
          obtain ⟨i1, rfl⟩ : ∃ i1, i = i1 + 1 := ⟨i - 1, by omega⟩
          have hlk := HK1.out (by omega)
          have hdd := HDD.out (by omega)
          have hp2 := grown_cell HG0.out (HP2.out (by omega)) (by simp)
          have hp1 := grown_cell HG0.out (HP1.out (by omega)) (by simp)
          have SC1' := Lib.hid (SC1.out (by omega))
          have AC' := Lib.hid (AC.out (by omega))
          obtain ⟨lk0, lk1⟩ := hlk
          rw [Nat.add_sub_cancel] at hp1 hp2
          have HCP1 := Lib.hid hp1
          clear hp1 HP1 HP2 HK1 HDD SC1 AC SC i0
          go_upto_region 14 with (go_at_call 28; refine (AC'.out _).mono ?_; rintro e w1 ⟨rfl, rfl⟩)
          obtain ⟨wn, rfl⟩ : ∃ wn : World, wn = w1 := ⟨_, rfl⟩
          have r3 := cell_of HR0.out 3
          go_cut [109] from 102 to 109 (fun c wx => c = .bool (decide (leap < d ∨ d = 6)) ∧ wx = wn)
          case first =>
            clear HE5 HG0 HP3 SC1' AC' HWN HC1 HC2 h1n h2n HCP1
            by_cases p1 : leap < d
            · go_wp2_with fail
              go_meet
              exact ⟨by simp [p1], rfl⟩
            by_cases p2 : d = 6
            · subst p2
              go_wp2_with fail
              go_meet
              exact ⟨by simp, rfl⟩
            · have e2 : (d == 6) = false := by simpa using p2
              go_wp2_with fail
              go_meet
              exact ⟨by simp [p1, p2], rfl⟩
          case rest =>
            obtain ⟨rfl, rfl⟩ := hcut
            obtain ⟨wn, rfl⟩ : ∃ wn : World, wn = wc := ⟨_, rfl⟩
            clear r3 AC'
            by_cases b5 : leap < d ∨ d = 6
            · have HX : Hid (R = 5) := by unfold Hid; rw [HE5.out, if_pos b5]
              rw [decide_eq_true b5]
              clear HE5 b5
              go_wp2_with fail
              go_ret
              exact ⟨by rw [HX.out]; rfl, HG0.out⟩
            have HE6 := Lib.hid ((HE5.out).trans (if_neg b5))
            rw [decide_eq_false b5]
            clear HE5 b5
            go_upto_region 16 with fail
            obtain ⟨B6, hB6⟩ : ∃ B6, decide (0 < d ∧ (s = 0 ∨ s = 7) ∧ s1 = s) = B6 := ⟨_, rfl⟩
            have HB6 := Lib.hid hB6
            clear hB6
            go_cut [134] from 110 to 134 (fun c wx => c = .bool B6 ∧ Hid (wn.grownBy wx none))
            case first =>
              have hp1 := HCP1.out
              clear HE6 HG0 HP3 HWN HC1 HC2 h1n h2n HCP1
              have ei : IntKind.i64.wrap (((i1 + 1 : Nat) : Int) - 1) = (i1 : Int) := by rw [IntWalk.i64_in _ (by omega)]; omega
              have ei2 : IntKind.i64.wrap ((i1 : Int) + 1 - 1) = (i1 : Int) := by rw [IntWalk.i64_in _ (by omega)]; omega
              have hi1 : (i1 : Int) < (n : Int) := by omega
              have hi2 : (i1 : Int) < (m : Int) := by omega
              have hi3 : (0 : Int) ≤ (i1 : Int) := by omega
              by_cases z1 : 0 < d
              · have z1' : decide ((0 : Int) < d) = true := by simpa using z1
                by_cases s0' : s = 0
                · subst s0'
                  have HV : Hid ((s1 == 0) = B6) := by unfold Hid; rw [← HB6.out, Bool.eq_iff_iff]; simp [z1]
                  go_quiet ((go_at_call 27; exact Calls.quiet_of_same (SC1'.out _)))
                  go_wp2_with fail
                  go_meet
                  exact ⟨by rw [← HV.out], grown_drewN (grown_refl _ _) _⟩
                have e0 : (s == 0) = false := by simpa using s0'
                by_cases s7' : s = 7
                · subst s7'
                  have HV : Hid ((s1 == 7) = B6) := by unfold Hid; rw [← HB6.out, Bool.eq_iff_iff]; simp [z1]
                  go_quiet ((go_at_call 27; exact Calls.quiet_of_same (SC1'.out _)))
                  go_wp2_with fail
                  go_meet
                  exact ⟨by rw [← HV.out], grown_drewN (grown_refl _ _) _⟩
                have e7 : (s == 7) = false := by simpa using s7'
                have HV : Hid (false = B6) := by unfold Hid; rw [← HB6.out]; simp [s0', s7']
                go_quiet (fail)
                go_wp2_with fail
                go_meet
                exact ⟨by rw [← HV.out], grown_drewN (grown_refl _ _) _⟩
              · have z1' : decide ((0 : Int) < d) = false := by simpa using z1
                have HV : Hid (false = B6) := by unfold Hid; rw [← HB6.out]; simp [z1]
                go_quiet (fail)
                go_wp2_with fail
                go_meet
                exact ⟨by rw [← HV.out], grown_drewN (grown_refl _ _) _⟩
            case rest =>
              obtain ⟨rfl, HGc⟩ := hcut
              have HGW : Hid (w.grownBy wc none) := grown_trans HG0.out HGc.out
              by_cases b6 : 0 < d ∧ (s = 0 ∨ s = 7) ∧ s1 = s
              · have HX : Hid (R = 6) := by unfold Hid; rw [HE6.out, if_pos b6]
                obtain rfl : true = B6 := by rw [← HB6.out, decide_eq_true b6]
                clear HE6 b6 HB6
                go_wp2_with fail
                go_ret
                exact ⟨by rw [HX.out]; rfl, HGW.out⟩
              have HE7 := Lib.hid ((HE6.out).trans (if_neg b6))
              obtain rfl : false = B6 := by rw [← HB6.out, decide_eq_false b6]
              clear HE6 b6 HB6 SC1' HCP1 hp2 h1n h2n
              by_cases j0 : i1 = 0
              · subst j0
                have HX : Hid (R = 0) := by unfold Hid; rw [HE7.out, if_neg (by omega)]
                clear HE7
                go_wp2_with fail
                go_ret
                exact ⟨by rw [HX.out]; rfl, HGW.out⟩
              obtain ⟨i2, rfl⟩ : ∃ i2, i1 = i2 + 1 := ⟨i1 - 1, by omega⟩
              by_cases d0 : d = 0
              · subst d0
                have hp3 := grown_cell HGW.out (HP3.out (by omega)) (by simp)
                rw [Nat.add_sub_cancel (n := i2) (m := 2)] at hp3
                clear HP3
                by_cases q : l2 = k
                · have HX : Hid (R = 7) := by unfold Hid; rw [HE7.out, if_pos ⟨by omega, rfl, q⟩]
                  subst q
                  clear HE7
                  go_wp2_with fail
                  go_ret
                  exact ⟨by rw [HX.out]; rfl, HGW.out⟩
                · have HX : Hid (R = 0) := by unfold Hid; rw [HE7.out, if_neg (fun h => q h.2.2)]
                  have e1 : (l2 == k) = false := by simpa using q
                  clear HE7
                  go_wp2_with fail
                  go_ret
                  exact ⟨by rw [HX.out]; rfl, HGW.out⟩
              · have e0 : (d == 0) = false := by simpa using d0
                have HX : Hid (R = 0) := by unfold Hid; rw [HE7.out, if_neg (fun h => d0 h.2.1)]
                clear HE7
                go_wp2_with fail
                go_ret
                exact ⟨by rw [HX.out]; rfl, HGW.out⟩

end Go.Proofs.Ythdohdllpaijhaa.RBrk
