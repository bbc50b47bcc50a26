/- FilterSigns. -/
import Derived.Test.YtonpopiofmojnaaFAlive
import Derived.Outline
namespace Go.Proofs.Ytonpopiofmojnaa.FSigns
open Go Go.RowKit Go.Proofs.Ytonpopiofmojnaa.Fl Go.Proofs.Ytonpopiofmojnaa.Fw Go.Proofs.Ytonpopiofmojnaa.Hp Go.Proofs.Ytonpopiofmojnaa.FRun Go.Proofs.Ytonpopiofmojnaa.FNew Go.Proofs.Ytonpopiofmojnaa.Rd Go.Proofs.Ytonpopiofmojnaa.FStrain Go.Proofs.Ytonpopiofmojnaa.FAlive
set_option linter.unusedVariables false

set_option maxHeartbeats 2000000 in
set_option maxRecDepth 100000 in
theorem signs_yes (c : Co) (ao : Option Addr) (len cap : Nat) (xs : List Nat) (w : World) (hlen : xs.length = len) (hl : len * 8 ≤ 140737488351232) (hin : In w ao xs) (hok : okAll c = true) :
    Calls Try.prog 6 #[.agg #[.float .f64 c.b0, .float .f64 c.b1, .float .f64 c.b2, .float .f64 c.a1, .float .f64 c.a2], .slice ao len cap] w fun e w' => e = .returned (.bool true) ∧ w.grownBy w' none := by
  obtain ⟨i0, hi, hz0, hz1, hz2⟩ := info_parts info22
  have HI := Lib.hid hin
  have HL := Lib.hid hlen
  have HK := Lib.hid hok
  clear hin hlen hok
  go_enter Try.func6, Try.ntmps6
  go_wp2_with (go_at_call 11; refine (alive_calls _).mono ?_; rintro e w1 ⟨rfl, hg⟩; have HG1 := Lib.hid hg; clear hg)
  have hw1 : w.heap.size + 1 ≤ w1.heap.size := by have := HG1.out.size; simpa using this
  have HA : Hid (w.grownBy w1 none) := grown_trans (grown_alloc (grown_refl _ _) _) HG1.out
  have HB : Hid (Box w1 w.heap.size c) := Box.grown (heap_alloc_new _ _) HG1.out
  clear HG1
  go_loopw [5, 17] (fun v i wr => ∃ k : Nat, k ≤ len ∧ i = .int .i64 k ∧ Hid (wr.ownsRow (w.heap.size + 1) 22 1 v k ((xs.map fun x => Value.float .f64 (fneg x)).take k)) ∧ Hid (Gr (w.heap.size + 1) [22] w1 wr)) (fun _ i _ => len - (intOf i).toNat)
  case atStart => exact ⟨0, Nat.zero_le _, rfl, World.ownsRow_nil _ _ _ _, Gr.refl _ _ _⟩
  case round =>
    obtain ⟨k, hk, rfl, HO, HR⟩ := hrel
    by_cases hlt : k < len
    · obtain ⟨x, hxk⟩ : ∃ x, xs[k]? = some x := ⟨xs[k]'(by rw [HL.out]; omega), List.getElem?_eq_getElem (by rw [HL.out]; omega)⟩
      obtain ⟨b, off, rfl, hx0⟩ := HI.out k x hxk
      have hx : wr.cell? ⟨b, off + k, none⟩ = some (.float .f64 x) := by
        have h1 := HA.out.cell hx0 (by simp)
        have h2 := World.block_lt_of_cell? w _ hx0
        rw [World.cell?_of_block (HR.out.block b (by have := HA.out.size; simp at h2; omega) (.inl (by simp at h2; omega)))]
        exact h1
      clear hx0
      have HX := Lib.hid hxk
      clear hxk
      go_wp2_with (at_builtin; refine wpList_append_own _ rfl _ _ 30 rfl (w.heap.size + 1) 22 i0 (.float .f64 0) 1 8 Try.underlying30 hi hz0 hz1 hz2 rfl (by decide) _ _ _ rfl (HO.out.alloc _) ⟨wr.heap.size, 0, none⟩ 1 1 [.float .f64 (fneg x)] rfl rfl ?c1 ?c2 ?c3 ?c4 ?c5 ?_)
      case c1 => exact cell_one_new _ _ _
      case c2 => intro u hu; simp at hu; subst hu; rfl
      case c3 => unfold maxLen; omega
      case c4 => omega
      case c5 => have := HR.out.size; simp; omega
      intro v' w5 hown5 hg5 _
      have HO5 : Hid (w5.ownsRow (w.heap.size + 1) 22 1 v' (k + 1) ((xs.map fun x => Value.float .f64 (fneg x)).take (k + 1))) := by
        unfold Hid
        rw [take_snoc (x := Value.float .f64 (fneg x)) (by rw [List.getElem?_map, HX.out]; rfl)]
        exact hown5
      have HR5 : Hid (Gr (w.heap.size + 1) [22] w1 w5) := HR.out.trans ((Gr.alloc (Gr.refl _ _ _) _).trans (.of_append (HO.out.alloc _) hg5 (by simp)))
      clear hown5 hg5
      go_wp2_with fail
      go_roundw
      case rel => exact ⟨k + 1, by omega, by go_num, HO5, HR5⟩
      case measure => simp [intOf]; omega
    · obtain rfl : k = len := by omega
      have HF : Hid (Fls wr u5 (xs.map fneg)) := by
        have := HO.out
        rw [List.take_of_length_le (by rw [List.length_map, HL.out]; omega)] at this
        exact owns_sl (R := fun _ u x => u = .float .f64 x) (xs := xs.map fneg) this (by simp) fun i u x h1 h2 => by
          rw [List.getElem?_map] at h1 h2
          cases hx : xs[i]? <;> rw [hx] at h1 h2 <;> simp at h1 h2
          rw [← h1, ← h2]
      obtain ⟨ao5, cap5, hu5, hi5⟩ := fls_in HF.out
      rw [List.length_map, HL.out] at hu5
      subst hu5
      clear hi5
      have HG : Hid (w.grownBy wr none) := by
        refine Gr.none (S := [22]) ((Gr.of_none HA.out).trans ⟨HR.out.os, HR.out.tape, HR.out.output, HR.out.size, fun i h1 h2 => ?_⟩)
        rcases h2 with h2 | h2
        · exact HR.out.block i h1 (.inl (by omega))
        · exact HR.out.block i h1 (.inr h2)
      have HBX : Hid (Box wr w.heap.size c) := HB.out.gr HR.out (by simp)
      obtain ⟨f0, f1, f2, f3, f4⟩ := box_facts HBX.out
      have HXS : Hid (xs.length * 8 ≤ 140737488355328) := by unfold Hid; rw [HL.out]; omega
      clear HB HA HR HO hi hz0 hz1 hz2
      have HL2 : Hid (Lls (wr.alloc (.cells #[.slice ao k cap, .slice ao k cap] 30)) (.slice (some ⟨wr.heap.size, 0, none⟩) 2 2) [xs, xs]) :=
        lls_new (vs := [.slice ao k cap, .slice ao k cap]) (by rfl) fun i u x h1 h2 => by
          have hf : Fls wr (.slice ao k cap) xs := by have := (HI.out.grown HG.out).fls (cap := cap); rwa [HL.out] at this
          match i, h1, h2 with
          | 0, h1, h2 => simp at h1 h2; subst h1 h2; exact hf
          | 1, h1, h2 => simp at h1 h2; subst h1 h2; exact hf
      go_wp2_with fail
      refine (strain_yes c _ _ [xs, xs] _ HK.out HL2.out (by simp) (by intro p hp; simp at hp; subst hp; exact HXS.out)).mono ?_
      rintro e w2 ⟨v2, yss, rfl, HO2, HS2, HG2⟩
      have HG2' : Hid (wr.grownBy w2 none) := grown_trans (grown_alloc (grown_refl _ _) _) HG2.out
      have HBX2 : Hid (Box w2 w.heap.size c) := HBX.out.grown HG2'.out
      clear f0 f1 f2 f3 f4
      obtain ⟨f0, f1, f2, f3, f4⟩ := box_facts HBX2.out
      have HL3 : Hid (Lls (w2.alloc (.cells #[.slice ao5 k cap5] 30)) (.slice (some ⟨w2.heap.size, 0, none⟩) 1 1) [xs.map fneg]) :=
        lls_new (vs := [.slice ao5 k cap5]) (by rfl) fun i u x h1 h2 => by
          match i, h1, h2 with
          | 0, h1, h2 => simp at h1 h2; subst h1 h2; exact HF.out.grown HG2'.out
      go_wp2_with fail
      refine (strain_yes c _ _ [xs.map fneg] _ HK.out HL3.out (by simp) (by intro p hp; simp at hp; subst hp; rw [List.length_map]; exact HXS.out)).mono ?_
      rintro e w3 ⟨v3, zss, rfl, HO3, HS3, HG3⟩
      have HG3' : Hid (w2.grownBy w3 none) := grown_trans (grown_alloc (grown_refl _ _) _) HG3.out
      go_wp2_with fail
      obtain ⟨ya, yb, rfl, hya, hyb⟩ := map_two (a := outs c rest0 xs) (b := outs c rest0 xs) (by simpa [strains] using HS2.out)
      obtain ⟨zc, rfl, hzc⟩ := map_one (a := outs c rest0 (xs.map fneg)) (by simpa [strains] using HS3.out)
      obtain ⟨b2, o2, cap2, g0, g1, rfl, k0, k1, r0, r1⟩ := ols_two (Ols.grown HO2.out HG3'.out)
      obtain ⟨b3, o3, cap3, g3, rfl, k3, r3⟩ := ols_one HO3.out
      have la : ya.length = k := by have := congrArg List.length hya; rwa [List.length_map, outs_length, HL.out] at this
      have lb : yb.length = k := by have := congrArg List.length hyb; rwa [List.length_map, outs_length, HL.out] at this
      have lc : zc.length = k := by have := congrArg List.length hzc; rwa [List.length_map, outs_length, List.length_map, HL.out] at this
      rw [la] at k0
      rw [lb] at k1
      rw [lc] at k3
      have LA := Lib.hid la
      have LB := Lib.hid lb
      have LC := Lib.hid lc
      have R0 := Lib.hid r0
      have R1 := Lib.hid r1
      have R3 := Lib.hid r3
      have YA := Lib.hid hya
      have YB := Lib.hid hyb
      have ZC := Lib.hid hzc
      have HLK : Hid (likeAll ya yb = true) := by
        unfold Hid likeAll
        rw [hya, hyb]
        simp
      clear la lb lc r0 r1 r3 hya hyb hzc f0 f1 f2 f3 f4
      go_quiet ((go_at_call 9; exact Calls.quiet_of (likeall_rows _ _ _ ya yb _ R0.out R1.out LA.out LB.out (by omega) HLK.out)))
      go_wp2_with fail
      have HGF : Hid (w.grownBy w3 none) := grown_trans (grown_trans HG.out HG2'.out) HG3'.out
      clear HG2 HG2' HG3 HG3' HO2 HO3 HS2 HS3 HBX HBX2 HL2 HL3 HF HXS HG
      go_loopw [90] (fun i wq => ∃ j m : Nat, j ≤ k ∧ i = .int .i64 j ∧ Hid (wq = w3.drewN m)) (fun i _ => k - (intOf i).toNat)
      case atStart => exact ⟨0, nq, Nat.zero_le _, rfl, rfl⟩
      case round =>
        obtain ⟨j, m, hj, rfl, HW⟩ := hrel
        by_cases hjk : j < k
        · obtain ⟨y, hy⟩ : ∃ y, ya[j]? = some y := ⟨ya[j]'(by rw [LA.out]; omega), List.getElem?_eq_getElem (by rw [LA.out]; omega)⟩
          obtain ⟨z, hz⟩ : ∃ y, zc[j]? = some y := ⟨zc[j]'(by rw [LC.out]; omega), List.getElem?_eq_getElem (by rw [LC.out]; omega)⟩
          have c0 : wr.cell? ⟨b2, o2, none⟩ = some (.slice (some ⟨g0, 0, none⟩) k k) := by rw [HW.out]; exact k0
          have c1 : wr.cell? ⟨b3, o3, none⟩ = some (.slice (some ⟨g3, 0, none⟩) k k) := by rw [HW.out]; exact k3
          have c2 : wr.cell? ⟨g0, j, none⟩ = some (.float .f64 y) := by rw [HW.out]; exact R0.out.cell hy
          have c3 : wr.cell? ⟨g3, j, none⟩ = some (.float .f64 z) := by rw [HW.out]; exact R3.out.cell hz
          have HE := Lib.hid (FLaws.signs_eq YA.out ZC.out hy hz)
          clear k0 k1 k3 hy hz
          go_wp2_with fail
          go_quiet ((go_at_call 12; exact FLike.to_quiet (HE.out ▸ equal_calls _ _ _)))
          go_wp2_with fail
          go_roundw
          case rel => exact ⟨j + 1, m + nq, by omega, by go_num, by unfold Hid; rw [HW.out, World.drewN_drewN]⟩
          case measure => simp [intOf]; omega
        · obtain rfl : j = k := by omega
          go_wp2_with fail
          go_ret
          exact ⟨rfl, by rw [HW.out]; exact grown_drewN HGF.out m⟩

set_option maxHeartbeats 2000000 in
set_option maxRecDepth 100000 in
theorem signs_no (c : Co) (ao : Option Addr) (len cap : Nat) (xs : List Nat) (w : World) (hlen : xs.length = len) (hl : len * 8 ≤ 140737488351232) (hin : In w ao xs) (hok : okAll c = false) :
    Calls Try.prog 6 #[.agg #[.float .f64 c.b0, .float .f64 c.b1, .float .f64 c.b2, .float .f64 c.a1, .float .f64 c.a2], .slice ao len cap] w fun e w' => e = .returned (.bool true) ∧ w.grownBy w' none := by
  obtain ⟨i0, hi, hz0, hz1, hz2⟩ := info_parts info22
  have HI := Lib.hid hin
  have HL := Lib.hid hlen
  have HK := Lib.hid hok
  clear hin hlen hok
  go_enter Try.func6, Try.ntmps6
  go_wp2_with (go_at_call 11; refine (alive_calls _).mono ?_; rintro e w1 ⟨rfl, hg⟩; have HG1 := Lib.hid hg; clear hg)
  have hw1 : w.heap.size + 1 ≤ w1.heap.size := by have := HG1.out.size; simpa using this
  have HA : Hid (w.grownBy w1 none) := grown_trans (grown_alloc (grown_refl _ _) _) HG1.out
  have HB : Hid (Box w1 w.heap.size c) := Box.grown (heap_alloc_new _ _) HG1.out
  clear HG1
  go_loopw [5, 17] (fun v i wr => ∃ k : Nat, k ≤ len ∧ i = .int .i64 k ∧ Hid (wr.ownsRow (w.heap.size + 1) 22 1 v k ((xs.map fun x => Value.float .f64 (fneg x)).take k)) ∧ Hid (Gr (w.heap.size + 1) [22] w1 wr)) (fun _ i _ => len - (intOf i).toNat)
  case atStart => exact ⟨0, Nat.zero_le _, rfl, World.ownsRow_nil _ _ _ _, Gr.refl _ _ _⟩
  case round =>
    obtain ⟨k, hk, rfl, HO, HR⟩ := hrel
    by_cases hlt : k < len
    · obtain ⟨x, hxk⟩ : ∃ x, xs[k]? = some x := ⟨xs[k]'(by rw [HL.out]; omega), List.getElem?_eq_getElem (by rw [HL.out]; omega)⟩
      obtain ⟨b, off, rfl, hx0⟩ := HI.out k x hxk
      have hx : wr.cell? ⟨b, off + k, none⟩ = some (.float .f64 x) := by
        have h1 := HA.out.cell hx0 (by simp)
        have h2 := World.block_lt_of_cell? w _ hx0
        rw [World.cell?_of_block (HR.out.block b (by have := HA.out.size; simp at h2; omega) (.inl (by simp at h2; omega)))]
        exact h1
      clear hx0
      have HX := Lib.hid hxk
      clear hxk
      go_wp2_with (at_builtin; refine wpList_append_own _ rfl _ _ 30 rfl (w.heap.size + 1) 22 i0 (.float .f64 0) 1 8 Try.underlying30 hi hz0 hz1 hz2 rfl (by decide) _ _ _ rfl (HO.out.alloc _) ⟨wr.heap.size, 0, none⟩ 1 1 [.float .f64 (fneg x)] rfl rfl ?c1 ?c2 ?c3 ?c4 ?c5 ?_)
      case c1 => exact cell_one_new _ _ _
      case c2 => intro u hu; simp at hu; subst hu; rfl
      case c3 => unfold maxLen; omega
      case c4 => omega
      case c5 => have := HR.out.size; simp; omega
      intro v' w5 hown5 hg5 _
      have HO5 : Hid (w5.ownsRow (w.heap.size + 1) 22 1 v' (k + 1) ((xs.map fun x => Value.float .f64 (fneg x)).take (k + 1))) := by
        unfold Hid
        rw [take_snoc (x := Value.float .f64 (fneg x)) (by rw [List.getElem?_map, HX.out]; rfl)]
        exact hown5
      have HR5 : Hid (Gr (w.heap.size + 1) [22] w1 w5) := HR.out.trans ((Gr.alloc (Gr.refl _ _ _) _).trans (.of_append (HO.out.alloc _) hg5 (by simp)))
      clear hown5 hg5
      go_wp2_with fail
      go_roundw
      case rel => exact ⟨k + 1, by omega, by go_num, HO5, HR5⟩
      case measure => simp [intOf]; omega
    · obtain rfl : k = len := by omega
      have HF : Hid (Fls wr u5 (xs.map fneg)) := by
        have := HO.out
        rw [List.take_of_length_le (by rw [List.length_map, HL.out]; omega)] at this
        exact owns_sl (R := fun _ u x => u = .float .f64 x) (xs := xs.map fneg) this (by simp) fun i u x h1 h2 => by
          rw [List.getElem?_map] at h1 h2
          cases hx : xs[i]? <;> rw [hx] at h1 h2 <;> simp at h1 h2
          rw [← h1, ← h2]
      obtain ⟨ao5, cap5, hu5, hi5⟩ := fls_in HF.out
      rw [List.length_map, HL.out] at hu5
      subst hu5
      clear hi5
      have HG : Hid (w.grownBy wr none) := by
        refine Gr.none (S := [22]) ((Gr.of_none HA.out).trans ⟨HR.out.os, HR.out.tape, HR.out.output, HR.out.size, fun i h1 h2 => ?_⟩)
        rcases h2 with h2 | h2
        · exact HR.out.block i h1 (.inl (by omega))
        · exact HR.out.block i h1 (.inr h2)
      have HBX : Hid (Box wr w.heap.size c) := HB.out.gr HR.out (by simp)
      obtain ⟨f0, f1, f2, f3, f4⟩ := box_facts HBX.out
      have HXS : Hid (xs.length * 8 ≤ 140737488355328) := by unfold Hid; rw [HL.out]; omega
      clear HB HA HR HO hi hz0 hz1 hz2
      go_wp2_with fail
      refine (strain_not c _ _ [] _ HK.out).mono ?_
      rintro e w2 ⟨rfl, HG2⟩
      have HG2' : Hid (wr.grownBy w2 none) := grown_trans (grown_alloc (grown_refl _ _) _) HG2.out
      have HBX2 : Hid (Box w2 w.heap.size c) := HBX.out.grown HG2'.out
      clear f0 f1 f2 f3 f4
      obtain ⟨f0, f1, f2, f3, f4⟩ := box_facts HBX2.out
      go_wp2_with fail
      refine (strain_not c _ _ [] _ HK.out).mono ?_
      rintro e w3 ⟨rfl, HG3⟩
      have HGF : Hid (w.grownBy w3 none) := grown_trans (grown_trans HG.out HG2'.out) (grown_trans (grown_alloc (grown_refl _ _) _) HG3.out)
      go_wp2_with fail
      go_ret
      exact ⟨rfl, HGF.out⟩

/-- THE LAW's WALK. -/
theorem signs_walk (c : Co) (v : Value) (xs : List Nat) (w : World) (hl : xs.length * 8 ≤ 140737488351232) (hv : Fls w v xs) :
    Calls Try.prog 6 #[.agg #[.float .f64 c.b0, .float .f64 c.b1, .float .f64 c.b2, .float .f64 c.a1, .float .f64 c.a2], v] w fun e w' => e = .returned (.bool true) ∧ w.grownBy w' none := by
  obtain ⟨ao, cap, rfl, hin⟩ := fls_in hv
  by_cases hok : okAll c = true
  · exact signs_yes c ao xs.length cap xs w rfl hl hin hok
  · exact signs_no c ao xs.length cap xs w rfl hl hin (by simpa using hok)

end Go.Proofs.Ytonpopiofmojnaa.FSigns
