/- FilterLater. -/
import Derived.Test.YtonpopiofmojnaaFAlive
import Derived.Test.YtonpopiofmojnaaMixed
import Derived.Outline
namespace Go.Proofs.Ytonpopiofmojnaa.FLater
open Go Go.RowKit Go.Proofs.Ytonpopiofmojnaa.Fl Go.Proofs.Ytonpopiofmojnaa.Fw Go.Proofs.Ytonpopiofmojnaa.Hp Go.Proofs.Ytonpopiofmojnaa.FRun Go.Proofs.Ytonpopiofmojnaa.FNew Go.Proofs.Ytonpopiofmojnaa.Rd Go.Proofs.Ytonpopiofmojnaa.FStrain Go.Proofs.Ytonpopiofmojnaa.FAlive
set_option linter.unusedVariables false

set_option maxHeartbeats 1000000 in
set_option maxRecDepth 100000 in
theorem later_out (c : Co) (v : Value) (n : Int) (w : World) (hn : n < 0 ∨ 500 < n) :
    Calls Try.prog 4 #[.agg #[.float .f64 c.b0, .float .f64 c.b1, .float .f64 c.b2, .float .f64 c.a1, .float .f64 c.a2], v, .int .i64 n] w fun e w' => e = .returned (.bool true) ∧ w.grownBy w' none := by
  rcases hn with hn | hn
  · go_enter Try.func4, Try.ntmps4
    go_wp2_with (go_at_call 11; refine (alive_calls _).mono ?_; rintro e w1 ⟨rfl, hg⟩; have HG1 := Lib.hid hg; clear hg)
    go_ret
    exact ⟨rfl, grown_trans (grown_alloc (grown_refl _ _) _) HG1.out⟩
  · have h0 : ¬ n < 0 := by omega
    go_enter Try.func4, Try.ntmps4
    go_wp2_with (go_at_call 11; refine (alive_calls _).mono ?_; rintro e w1 ⟨rfl, hg⟩; have HG1 := Lib.hid hg; clear hg)
    go_ret
    exact ⟨rfl, grown_trans (grown_alloc (grown_refl _ _) _) HG1.out⟩

set_option maxHeartbeats 2000000 in
set_option maxRecDepth 100000 in
theorem later_yes (c : Co) (ao : Option Addr) (len cap : Nat) (xs : List Nat) (n : Nat) (w : World) (hlen : xs.length = len) (hl : len * 8 ≤ 140737488351232) (hin : In w ao xs) (hn : n ≤ 500) (hok : okAll c = true) :
    Calls Try.prog 4 #[.agg #[.float .f64 c.b0, .float .f64 c.b1, .float .f64 c.b2, .float .f64 c.a1, .float .f64 c.a2], .slice ao len cap, .int .i64 n] w fun e w' => e = .returned (.bool true) ∧ w.grownBy w' none := by
  obtain ⟨i0, hi, hz0, hz1, hz2⟩ := info_parts info22
  have HI := Lib.hid hin
  have HL := Lib.hid hlen
  have HK := Lib.hid hok
  have h0 : ¬ ((n : Int) < 0) := by omega
  have h1 : ¬ ((500 : Int) < n) := by omega
  clear hin hlen hok
  go_enter Try.func4, Try.ntmps4
  go_wp2_with (go_at_call 11; refine (alive_calls _).mono ?_; rintro e w1 ⟨rfl, hg⟩; have HG1 := Lib.hid hg; clear hg; have HB : Hid (Box w1 w.heap.size c) := Box.grown (heap_alloc_new _ _) HG1.out; obtain ⟨f0, f1, f2, f3, f4⟩ := box_facts HB.out)
  have HA : Hid (w.grownBy w1 none) := grown_trans (grown_alloc (grown_refl _ _) _) HG1.out
  have HXS : Hid (xs.length * 8 ≤ 140737488355328) := by unfold Hid; rw [HL.out]; omega
  have HL1 : Hid (Lls (w1.alloc (.cells #[.slice ao len cap] 30)) (.slice (some ⟨w1.heap.size, 0, none⟩) 1 1) [xs]) :=
    lls_new (vs := [.slice ao len cap]) (by rfl) fun i u x h1 h2 => by
      have hf : Fls w1 (.slice ao len cap) xs := by have := (HI.out.grown HA.out).fls (cap := cap); rwa [HL.out] at this
      match i, h1, h2 with
      | 0, h1, h2 => simp at h1 h2; subst h1 h2; exact hf
  refine (strain_yes c _ _ [xs] _ HK.out HL1.out (by simp) (by intro p hp; simp at hp; subst hp; exact HXS.out)).mono ?_
  rintro e w2 ⟨v2, yss, rfl, HO2, HS2, HG2⟩
  have HG2' : Hid (w1.grownBy w2 none) := grown_trans (grown_alloc (grown_refl _ _) _) HG2.out
  have HB2 : Hid (Box w2 w.heap.size c) := HB.out.grown HG2'.out
  clear f0 f1 f2 f3 f4
  go_wp2_with fail
  have hne := Mixed.Later.nonempty w2
  obtain ⟨e0, e1, e2, e3, e4⟩ := box_facts HB2.out
  have k0 : ∀ n : Mixed.Later w2, n.w.cell? ⟨w.heap.size, 0, none⟩ = some (.float .f64 c.b0) := Mixed.Later.cell e0
  have k1 : ∀ n : Mixed.Later w2, n.w.cell? ⟨w.heap.size, 1, none⟩ = some (.float .f64 c.b1) := Mixed.Later.cell e1
  have k2 : ∀ n : Mixed.Later w2, n.w.cell? ⟨w.heap.size, 2, none⟩ = some (.float .f64 c.b2) := Mixed.Later.cell e2
  have k3 : ∀ n : Mixed.Later w2, n.w.cell? ⟨w.heap.size, 3, none⟩ = some (.float .f64 c.a1) := Mixed.Later.cell e3
  have k4 : ∀ n : Mixed.Later w2, n.w.cell? ⟨w.heap.size, 4, none⟩ = some (.float .f64 c.a2) := Mixed.Later.cell e4
  clear e0 e1 e2 e3 e4
  refine Mixed.wp_region_mixed (Mixed.late w2) (fun k => k == 2 || k == 4 || k == 5) (by kernel_rfl) (by kernel_rfl) (Mixed.late_of (grown_drew (grown_refl _ _))) ?_
  unfold Mixed.late
  refine Mixed.wpM_quiet rfl rfl rfl ?_; intro K hK; go_big_quiet_op; go_big_quiet_on
  refine Mixed.wpM_quiet rfl rfl rfl ?_; intro K hK; go_big_quiet_op; go_big_quiet_on
  refine Mixed.wpM_make_full rfl rfl _ _ 30 rfl 22 i0 (.float .f64 0) 1 Try.underlying30 hi hz0 hz1 _ _ _ _ n rfl rfl rfl rfl (by rw [hz2]; omega) (by unfold maxLen; omega) ?_
  intro w3 hown hg3
  rw [show (madeCells (Value.float FloatKind.f64 0).cells (n * 1)).toList = List.replicate n (Value.float .f64 0) from by rw [Nat.mul_one]; exact madeCells_one _ _] at hown
  have HN3 := Lib.hid (new_of_made hown)
  have HG3 : Hid (w2.grownBy w3 none) := grown_trans (grown_drew (grown_refl _ _)) hg3
  clear hown hg3
  refine ⟨⟨⟨w3, HG3.out⟩, rfl⟩, ?_⟩
  go_simp
  refine Mixed.wpM_quiet rfl rfl rfl ?_; intro K hK; go_big_quiet_op; go_big_quiet_on
  refine Mixed.wpM_make rfl rfl (.slice (some ⟨w3.heap.size, 0, none⟩) 2 2) (w3.alloc (.cells #[.slice (some ⟨w2.heap.size, 0, none⟩) n n, .slice ao len cap] 30)) (by go_simp) ⟨⟨_, grown_alloc HG3.out _⟩, rfl⟩ ?_
  go_simp
  have HL4 : Hid (Lls (w3.alloc (.cells #[.slice (some ⟨w2.heap.size, 0, none⟩) n n, .slice ao len cap] 30)) (.slice (some ⟨w3.heap.size, 0, none⟩) 2 2) [List.replicate n 0, xs]) :=
    lls_new (vs := [.slice (some ⟨w2.heap.size, 0, none⟩) n n, .slice ao len cap]) (by rfl) fun i u x h1 h2 => by
      match i, h1, h2 with
      | 0, h1, h2 =>
        simp at h1 h2
        subst h1 h2
        have ho : Own 22 w3 (.slice (some ⟨w2.heap.size, 0, none⟩) n n) ((List.replicate n 0).map (Value.float .f64)) := ⟨w2.heap.size, by simp, by rw [List.map_replicate]; exact HN3.out⟩
        exact ho.fls
      | 1, h1, h2 =>
        simp at h1 h2
        subst h1 h2
        have := (HI.out.grown (grown_trans HA.out (grown_trans HG2'.out HG3.out))).fls (cap := cap)
        rwa [HL.out] at this
  refine Mixed.wpM_call rfl rfl 7 _ (by go_simp; rfl) ?_
  refine (strain_yes c _ _ [List.replicate n 0, xs] _ HK.out HL4.out (by simp) (by intro p hp; simp at hp; rcases hp with rfl | rfl; (simp; omega); exact HXS.out)).mono ?_
  rintro e w4 ⟨v4, zss, rfl, HO4, HS4, HG4⟩
  have HG4' : Hid (w2.grownBy w4 none) := grown_trans (grown_alloc HG3.out _) HG4.out
  refine ⟨_, rfl, ⟨⟨w4, HG4'.out⟩, rfl⟩, ?_⟩
  go_simp
  refine Mixed.wpM_quiet rfl rfl rfl ?_; intro K hK; go_big_quiet_op; go_big_quiet_on
  refine Mixed.wpM_quiet rfl rfl rfl ?_; intro K hK; go_big_quiet_op; go_big_quiet_on
  refine Mixed.wpM_quiet rfl rfl rfl ?_; intro K hK; go_big_quiet_op; go_big_quiet_on
  refine Mixed.wpM_quiet rfl rfl rfl ?_; intro K hK; go_big_quiet_op; go_big_quiet_on
  refine Mixed.wpM_quiet rfl rfl rfl ?_; intro K hK; go_big_quiet_op; go_big_quiet_on
  refine Mixed.wpM_nil ?_
  intro nx hnx
  clear nx hnx
  clear k0 k1 k2 k3 k4 hne
  have HGF : Hid (w.grownBy w4 none) := grown_trans HA.out (grown_trans HG2'.out HG4'.out)
  obtain ⟨ya, rfl, hya⟩ := map_one (a := outs c rest0 xs) (by simpa [strains] using HS2.out)
  obtain ⟨za, zb, rfl, hza, hzb⟩ := map_two (a := outs c rest0 (List.replicate n 0)) (b := outs c (fin c rest0 (List.replicate n 0)) xs) (by simpa [strains] using HS4.out)
  obtain ⟨b2, o2, cap2, g2, rfl, k2, r2⟩ := ols_one (Ols.grown HO2.out HG4'.out)
  obtain ⟨b4, o4, cap4, g4, g5, rfl, k4, k5, r4, r5⟩ := ols_two HO4.out
  have la : ya.length = len := by have := congrArg List.length hya; rwa [List.length_map, outs_length, HL.out] at this
  have lza : za.length = n := by have := congrArg List.length hza; rwa [List.length_map, outs_length, List.length_replicate] at this
  have lzb : zb.length = len := by have := congrArg List.length hzb; rwa [List.length_map, outs_length, HL.out] at this
  rw [la] at k2
  rw [lza] at k4
  rw [lzb] at k5
  have LA := Lib.hid la
  have LZA := Lib.hid lza
  have LZB := Lib.hid lzb
  have R2 := Lib.hid r2
  have R4 := Lib.hid r4
  have R5 := Lib.hid r5
  have YA := Lib.hid hya
  have ZA := Lib.hid hza
  have ZB := Lib.hid hzb
  have HOK := Lib.hid (FLaws.ok_of HK.out)
  clear la lza lzb r2 r4 r5 hya hza hzb hi hz0 hz1 hz2 HN3 HL4 HO2 HO4 HS2 HS4 HG2 HG3 HG4 HG4' HG2' HB HB2 HL1 HXS HG1 HA
  go_wp2_with fail
  go_loop [86] (fun i => ∃ j : Nat, j ≤ n ∧ i = .int .i64 j) (fun i => n - (intOf i).toNat)
  case atStart => exact ⟨0, Nat.zero_le _, rfl⟩
  case round =>
    obtain ⟨j, hj, rfl⟩ := hrel
    by_cases hjn : j < n
    · obtain ⟨y, hy⟩ : ∃ y, za[j]? = some y := ⟨za[j]'(by rw [LZA.out]; omega), List.getElem?_eq_getElem (by rw [LZA.out]; omega)⟩
      have c0 : w4.cell? ⟨g4, j, none⟩ = some (.float .f64 y) := R4.out.cell hy
      have HZ : (FloatKind.f64.format.order y 0 == some .eq) = true := FLaws.later_zero HOK.out ZA.out hy
      have HZ' : (FloatKind.f64.format.order y 0 != some .eq) = false := by rw [bne, HZ]; rfl
      clear hy
      go_wp2_with fail
      go_round
      case rel => exact ⟨j + 1, by omega, by go_num⟩
      case measure => simp [intOf]; omega
    · obtain rfl : j = n := by omega
      go_wp2_with fail
      go_loopw [95] (fun i wq => ∃ p m : Nat, p ≤ len ∧ i = .int .i64 p ∧ Hid (wq = w4.drewN m)) (fun i _ => len - (intOf i).toNat)
      case atStart => exact ⟨0, 0, Nat.zero_le _, rfl, rfl⟩
      case round =>
        obtain ⟨p, m, hp, rfl, HW⟩ := hrel
        by_cases hpl : p < len
        · obtain ⟨y, hy⟩ : ∃ y, ya[p]? = some y := ⟨ya[p]'(by rw [LA.out]; omega), List.getElem?_eq_getElem (by rw [LA.out]; omega)⟩
          obtain ⟨z, hz⟩ : ∃ y, zb[p]? = some y := ⟨zb[p]'(by rw [LZB.out]; omega), List.getElem?_eq_getElem (by rw [LZB.out]; omega)⟩
          have c0 : wr.cell? ⟨b2, o2, none⟩ = some (.slice (some ⟨g2, 0, none⟩) len len) := by rw [HW.out]; exact k2
          have c1 : wr.cell? ⟨b4, o4 + 1, none⟩ = some (.slice (some ⟨g5, 0, none⟩) len len) := by rw [HW.out]; exact k5
          have c2 : wr.cell? ⟨g2, p, none⟩ = some (.float .f64 y) := by rw [HW.out]; exact R2.out.cell hy
          have c3 : wr.cell? ⟨g5, p, none⟩ = some (.float .f64 z) := by rw [HW.out]; exact R5.out.cell hz
          have HE := Lib.hid (FLaws.later_eq HOK.out YA.out ZB.out hy hz)
          clear k2 k4 k5 hy hz
          go_wp2_with fail
          go_quiet ((go_at_call 12; exact FLike.to_quiet (HE.out ▸ equal_calls _ _ _)))
          go_wp2_with fail
          go_roundw
          case rel => exact ⟨p + 1, m + nq, by omega, by go_num, by unfold Hid; rw [HW.out, World.drewN_drewN]⟩
          case measure => simp [intOf]; omega
        · obtain rfl : p = len := by omega
          go_wp2_with fail
          go_ret
          exact ⟨rfl, by rw [HW.out]; exact grown_drewN HGF.out m⟩

set_option maxHeartbeats 2000000 in
set_option maxRecDepth 100000 in
theorem later_no (c : Co) (ao : Option Addr) (len cap : Nat) (xs : List Nat) (n : Nat) (w : World) (hlen : xs.length = len) (hl : len * 8 ≤ 140737488351232) (hin : In w ao xs) (hn : n ≤ 500) (hok : okAll c = false) :
    Calls Try.prog 4 #[.agg #[.float .f64 c.b0, .float .f64 c.b1, .float .f64 c.b2, .float .f64 c.a1, .float .f64 c.a2], .slice ao len cap, .int .i64 n] w fun e w' => e = .returned (.bool true) ∧ w.grownBy w' none := by
  obtain ⟨i0, hi, hz0, hz1, hz2⟩ := info_parts info22
  have HI := Lib.hid hin
  have HL := Lib.hid hlen
  have HK := Lib.hid hok
  have h0 : ¬ ((n : Int) < 0) := by omega
  have h1 : ¬ ((500 : Int) < n) := by omega
  clear hin hlen hok
  go_enter Try.func4, Try.ntmps4
  go_wp2_with (go_at_call 11; refine (alive_calls _).mono ?_; rintro e w1 ⟨rfl, hg⟩; have HG1 := Lib.hid hg; clear hg; have HB : Hid (Box w1 w.heap.size c) := Box.grown (heap_alloc_new _ _) HG1.out; obtain ⟨f0, f1, f2, f3, f4⟩ := box_facts HB.out)
  have HA : Hid (w.grownBy w1 none) := grown_trans (grown_alloc (grown_refl _ _) _) HG1.out
  have HXS : Hid (xs.length * 8 ≤ 140737488355328) := by unfold Hid; rw [HL.out]; omega
  refine (strain_not c _ _ [] _ HK.out).mono ?_
  rintro e w2 ⟨rfl, HG2⟩
  have HG2' : Hid (w1.grownBy w2 none) := grown_trans (grown_alloc (grown_refl _ _) _) HG2.out
  have HB2 : Hid (Box w2 w.heap.size c) := HB.out.grown HG2'.out
  clear f0 f1 f2 f3 f4
  go_wp2_with fail
  have hne := Mixed.Later.nonempty w2
  obtain ⟨e0, e1, e2, e3, e4⟩ := box_facts HB2.out
  have k0 : ∀ n : Mixed.Later w2, n.w.cell? ⟨w.heap.size, 0, none⟩ = some (.float .f64 c.b0) := Mixed.Later.cell e0
  have k1 : ∀ n : Mixed.Later w2, n.w.cell? ⟨w.heap.size, 1, none⟩ = some (.float .f64 c.b1) := Mixed.Later.cell e1
  have k2 : ∀ n : Mixed.Later w2, n.w.cell? ⟨w.heap.size, 2, none⟩ = some (.float .f64 c.b2) := Mixed.Later.cell e2
  have k3 : ∀ n : Mixed.Later w2, n.w.cell? ⟨w.heap.size, 3, none⟩ = some (.float .f64 c.a1) := Mixed.Later.cell e3
  have k4 : ∀ n : Mixed.Later w2, n.w.cell? ⟨w.heap.size, 4, none⟩ = some (.float .f64 c.a2) := Mixed.Later.cell e4
  clear e0 e1 e2 e3 e4
  refine Mixed.wp_region_mixed (Mixed.late w2) (fun k => k == 2 || k == 4 || k == 5) (by kernel_rfl) (by kernel_rfl) (Mixed.late_of (grown_drew (grown_refl _ _))) ?_
  unfold Mixed.late
  refine Mixed.wpM_quiet rfl rfl rfl ?_; intro K hK; go_big_quiet_op; go_big_quiet_on
  refine Mixed.wpM_quiet rfl rfl rfl ?_; intro K hK; go_big_quiet_op; go_big_quiet_on
  refine Mixed.wpM_make_full rfl rfl _ _ 30 rfl 22 i0 (.float .f64 0) 1 Try.underlying30 hi hz0 hz1 _ _ _ _ n rfl rfl rfl rfl (by rw [hz2]; omega) (by unfold maxLen; omega) ?_
  intro w3 hown hg3
  rw [show (madeCells (Value.float FloatKind.f64 0).cells (n * 1)).toList = List.replicate n (Value.float .f64 0) from by rw [Nat.mul_one]; exact madeCells_one _ _] at hown
  have HN3 := Lib.hid (new_of_made hown)
  have HG3 : Hid (w2.grownBy w3 none) := grown_trans (grown_drew (grown_refl _ _)) hg3
  clear hown hg3
  refine ⟨⟨⟨w3, HG3.out⟩, rfl⟩, ?_⟩
  go_simp
  refine Mixed.wpM_quiet rfl rfl rfl ?_; intro K hK; go_big_quiet_op; go_big_quiet_on
  refine Mixed.wpM_make rfl rfl (.slice (some ⟨w3.heap.size, 0, none⟩) 2 2) (w3.alloc (.cells #[.slice (some ⟨w2.heap.size, 0, none⟩) n n, .slice ao len cap] 30)) (by go_simp) ⟨⟨_, grown_alloc HG3.out _⟩, rfl⟩ ?_
  go_simp
  refine Mixed.wpM_call rfl rfl 7 _ (by go_simp; rfl) ?_
  refine (strain_not c _ _ [] _ HK.out).mono ?_
  rintro e w4 ⟨rfl, HG4⟩
  have HG4' : Hid (w2.grownBy w4 none) := grown_trans (grown_alloc HG3.out _) HG4.out
  refine ⟨_, rfl, ⟨⟨w4, HG4'.out⟩, rfl⟩, ?_⟩
  go_simp
  refine Mixed.wpM_quiet rfl rfl rfl ?_; intro K hK; go_big_quiet_op; go_big_quiet_on
  refine Mixed.wpM_quiet rfl rfl rfl ?_; intro K hK; go_big_quiet_op; go_big_quiet_on
  refine Mixed.wpM_quiet rfl rfl rfl ?_; intro K hK; go_big_quiet_op; go_big_quiet_on
  refine Mixed.wpM_quiet rfl rfl rfl ?_; intro K hK; go_big_quiet_op; go_big_quiet_on
  refine Mixed.wpM_quiet rfl rfl rfl ?_; intro K hK; go_big_quiet_op; go_big_quiet_on
  refine Mixed.wpM_nil ?_
  intro nx hnx
  clear nx hnx
  clear k0 k1 k2 k3 k4 hne
  have HGF : Hid (w.grownBy w4 none) := grown_trans HA.out (grown_trans HG2'.out HG4'.out)
  go_wp2_with fail
  go_ret
  exact ⟨rfl, HGF.out⟩

/-- THE LAW's WALK. -/
theorem later_walk (c : Co) (v : Value) (xs : List Nat) (n : Int) (w : World) (hl : xs.length * 8 ≤ 140737488351232) (hv : Fls w v xs) :
    Calls Try.prog 4 #[.agg #[.float .f64 c.b0, .float .f64 c.b1, .float .f64 c.b2, .float .f64 c.a1, .float .f64 c.a2], v, .int .i64 n] w fun e w' => e = .returned (.bool true) ∧ w.grownBy w' none := by
  by_cases hn : n < 0 ∨ 500 < n
  · exact later_out c v n w hn
  · obtain ⟨ao, cap, rfl, hin⟩ := fls_in hv
    obtain ⟨m, rfl⟩ := Int.eq_ofNat_of_zero_le (show 0 ≤ n by omega)
    by_cases hok : okAll c = true
    · exact later_yes c ao xs.length cap xs m w rfl hl hin (by omega) hok
    · exact later_no c ao xs.length cap xs m w rfl hl hin (by omega) (by simpa using hok)

end Go.Proofs.Ytonpopiofmojnaa.FLater
