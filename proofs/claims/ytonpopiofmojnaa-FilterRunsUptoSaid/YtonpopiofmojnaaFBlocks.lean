/- FilterBlocks. -/
import Derived.Test.YtonpopiofmojnaaFAlive
import Derived.Outline
namespace Go.Proofs.Ytonpopiofmojnaa.FBlocks
open Go Go.RowKit Go.Proofs.Ytonpopiofmojnaa.Fl Go.Proofs.Ytonpopiofmojnaa.Fw Go.Proofs.Ytonpopiofmojnaa.Hp Go.Proofs.Ytonpopiofmojnaa.FRun Go.Proofs.Ytonpopiofmojnaa.FNew Go.Proofs.Ytonpopiofmojnaa.Rd Go.Proofs.Ytonpopiofmojnaa.FStrain Go.Proofs.Ytonpopiofmojnaa.FAlive
set_option linter.unusedVariables false

theorem elem30 : Try.prog.underlying 30 = some (.slice (Try.prog.elem 30)) := by kernel_rfl
theorem size_elem30 (w : World) : (sizeOf (Try.prog.elem 30)).run Try.prog w = .ok 1 w := by kernel_rfl

theorem in_add {w : World} {ao : Option Addr} {ys : List Nat} {l : Nat} (h : In w ao ys) : In w (ao.map (·.add l)) (ys.drop l) := by
  intro i x hx
  rw [List.getElem?_drop] at hx
  obtain ⟨b, off, rfl, hc⟩ := h (l + i) x hx
  exact ⟨b, off + l, by simp [Addr.add_lit], by rw [Nat.add_assoc]; exact hc⟩

theorem in_take {w : World} {ao : Option Addr} {ys : List Nat} {l : Nat} (h : In w ao ys) : In w ao (ys.take l) := by
  intro i x hx
  rw [List.getElem?_take] at hx
  split at hx
  · exact h i x hx
  · cases hx

theorem in_nil {w : World} (ao : Option Addr) : In w ao [] := fun i x hx => by simp at hx

/-- 's[n:]'. -/
theorem slice_lo (ao : Option Addr) (l cap n : Nat) (h : n ≤ l) (hc : l ≤ cap) : ∃ ao', (∀ w, (Instr.sliceAt 30 (.slice ao l cap) (some (.int .i64 n)) none none).run Try.prog w = .ok (.slice ao' (l - n) (cap - n)) w) ∧
    ∀ w ys, ys.length = l → In w ao ys → In w ao' (ys.drop n) := by
  refine ⟨if cap = n then ao else ao.map (·.add (n * 1)), fun w => ?_, fun w ys hy hi => ?_⟩
  · rw [run_sliceAt_slice _ _ _ _ _ _ elem30, run_slice_l _ _ _ _ _ elem30 _ _ (by omega) (by omega), size_elem30]
    simp [Result.andThen, sliced]
  · split
    · rename_i e
      rw [List.drop_of_length_le (by omega)]
      exact in_nil _
    · rw [Nat.mul_one]; exact in_add hi

/-- 's[:n:n]'. -/
theorem slice_hi (ao : Option Addr) (l cap n : Nat) (h : n ≤ l) (hc : l ≤ cap) : ∃ ao', (∀ w, (Instr.sliceAt 30 (.slice ao l cap) none (some (.int .i64 n)) (some (.int .i64 n))).run Try.prog w = .ok (.slice ao' n n) w) ∧
    ∀ w ys, ys.length = l → In w ao ys → In w ao' (ys.take n) := by
  refine ⟨if n = 0 then ao else ao.map (·.add (0 * 1)), fun w => ?_, fun w ys hy hi => ?_⟩
  · rw [run_sliceAt_slice _ _ _ _ _ _ elem30, run_slice_hm _ _ _ _ _ elem30 _ _ _ _ (by omega) (by omega) (by omega), size_elem30]
    simp [Result.andThen, sliced]
  · split
    · exact in_take hi
    · rw [Nat.zero_mul]
      have := in_add (l := 0) hi
      rw [List.drop_zero] at this
      exact in_take this

/-- j cuts are done: pieces, and what is left. -/
structure Cut (w0 : World) (xs : List Nat) (j : Nat) (v : Value) (ao : Option Addr) (l cap : Nat) (vs : List Value) (ps : List (List Nat)) (ys : List Nat) (wr : World) : Prop where
  own : wr.ownsRow (w0.heap.size + 1) 30 1 v ps.length vs
  len : vs.length = ps.length
  few : ps.length ≤ j
  each : ∀ (i : Nat) (u : Value) (p : List Nat), vs[i]? = some u → ps[i]? = some p → Fls w0 u p
  all : ps.flatten ++ ys = xs
  left : ys.length = l
  within : l ≤ cap
  reads : In w0 ao ys

set_option maxHeartbeats 2000000 in
set_option maxRecDepth 100000 in
theorem blocks_yes (c : Co) (ao : Option Addr) (len cap : Nat) (xs : List Nat) (bo : Option Addr) (n bcap : Nat) (is : List Int) (w : World) (hlen : xs.length = len) (hl : len ≤ 1048576) (hlc : len ≤ cap) (hin : In w ao xs)
    (hn : is.length = n) (hn' : n ≤ 1048576) (hcuts : ∀ i x, is[i]? = some x → ∃ b off, bo = some ⟨b, off, none⟩ ∧ w.cell? ⟨b, off + i, none⟩ = some (.int .i64 x)) (hok : okAll c = true) :
    Calls Try.prog 5 #[.agg #[.float .f64 c.b0, .float .f64 c.b1, .float .f64 c.b2, .float .f64 c.a1, .float .f64 c.a2], .slice ao len cap, .slice bo n bcap] w fun e w' => e = .returned (.bool true) ∧ w.grownBy w' none := by
  obtain ⟨i0, hi, hz0, hz1, hz2⟩ := info_parts info30
  have HI := Lib.hid hin
  have HL := Lib.hid hlen
  have HK := Lib.hid hok
  have HC := Lib.hid hcuts
  have HN := Lib.hid hn
  clear hin hlen hok hcuts hn
  go_enter Try.func5, Try.ntmps5
  go_wp2_with (go_at_call 11; refine (alive_calls _).mono ?_; rintro e w1 ⟨rfl, hg⟩; have HG1 := Lib.hid hg; clear hg)
  have hw1 : w.heap.size + 1 ≤ w1.heap.size := by have := HG1.out.size; simpa using this
  have HA : Hid (w.grownBy w1 none) := grown_trans (grown_alloc (grown_refl _ _) _) HG1.out
  have HB : Hid (Box w1 w.heap.size c) := Box.grown (heap_alloc_new _ _) HG1.out
  clear HG1
  go_loopw [7, 8, 23] (fun v u i wr => ∃ j : Nat, j ≤ n ∧ i = .int .i64 j ∧ ∃ (ao' : Option Addr) (l cap' : Nat) (vs : List Value) (ps : List (List Nat)) (ys : List Nat), u = .slice ao' l cap' ∧ Hid (Cut w xs j v ao' l cap' vs ps ys wr) ∧ Hid (Gr (w.heap.size + 1) [30] w1 wr)) (fun _ _ i _ => n - (intOf i).toNat)
  case atStart => exact ⟨0, Nat.zero_le _, rfl, ao, len, cap, [], [], xs, rfl, ⟨World.ownsRow_nil _ _ _ _, rfl, Nat.le_refl _, fun i u p h => by simp at h, rfl, HL.out, hlc, HI.out⟩, Gr.refl _ _ _⟩
  case round =>
    obtain ⟨j, hj, rfl, ao', l, cap', vs, ps, ys, rfl, HR, HGR⟩ := hrel
    have HGW : Hid (w.grownBy wr none) := by
      refine Gr.none (S := [30]) ((Gr.of_none HA.out).trans ⟨HGR.out.os, HGR.out.tape, HGR.out.output, HGR.out.size, fun i h1 h2 => ?_⟩)
      rcases h2 with h2 | h2
      · exact HGR.out.block i h1 (.inl (by omega))
      · exact HGR.out.block i h1 (.inr h2)
    have hll : l ≤ 1048576 := by have h1 := HR.out.left; have h2 := congrArg List.length HR.out.all; rw [List.length_append, HL.out] at h2; omega
    have hcc : l ≤ cap' := HR.out.within
    by_cases hjn : j < n
    · obtain ⟨x, hxj⟩ : ∃ x, is[j]? = some x := ⟨is[j]'(by rw [HN.out]; omega), List.getElem?_eq_getElem (by rw [HN.out]; omega)⟩
      obtain ⟨b, off, rfl, hx0⟩ := HC.out j x hxj
      have hx : wr.cell? ⟨b, off + j, none⟩ = some (.int .i64 x) := HGW.out.cell hx0 (by simp)
      clear hx0 hxj
      by_cases hneg : x < 0
      · go_wp2_with fail
        go_roundw
        case rel => exact ⟨j + 1, by omega, by go_num, ao', l, cap', vs, ps, ys, rfl, ⟨HR.out.own, HR.out.len, by have := HR.out.few; omega, HR.out.each, HR.out.all, HR.out.left, HR.out.within, HR.out.reads⟩, HGR⟩
        case measure => simp [intOf]; omega
      · by_cases hbig : (l : Int) < x
        · go_wp2_with fail
          go_roundw
          case rel => exact ⟨j + 1, by omega, by go_num, ao', l, cap', vs, ps, ys, rfl, ⟨HR.out.own, HR.out.len, by have := HR.out.few; omega, HR.out.each, HR.out.all, HR.out.left, HR.out.within, HR.out.reads⟩, HGR⟩
          case measure => simp [intOf]; omega
        · obtain ⟨m, rfl⟩ := Int.eq_ofNat_of_zero_le (show 0 ≤ x by omega)
          have hml : m ≤ l := by omega
          obtain ⟨a1, hs1, hi1⟩ := slice_hi ao' l cap' m hml hcc
          obtain ⟨a2, hs2, hi2⟩ := slice_lo ao' l cap' m hml hcc
          have HI1 := Lib.hid hi1
          have HI2 := Lib.hid hi2
          clear hi1 hi2
          go_wp2_with (at_builtin; refine wpList_append_own _ rfl _ _ 25 rfl (w.heap.size + 1) 30 i0 (.slice none 0 0) 1 24 Try.underlying25 hi hz0 hz1 hz2 rfl (by decide) _ _ _ rfl (HR.out.own.alloc _) ⟨wr.heap.size, 0, none⟩ 1 1 [.slice a1 m m] rfl rfl ?c1 ?c2 ?c3 ?c4 ?c5 ?_)
          case c2 => rfl
          case c3 => have := HR.out.few; unfold maxLen; omega
          case c4 => have := HR.out.few; omega
          case c5 => have := HGW.out.size; omega
          intro v' w5 hown5 hg5 _
          have HR5 : Hid (Cut w xs (j + 1) v' a2 (l - m) (cap' - m) (vs ++ [.slice a1 m m]) (ps ++ [ys.take m]) (ys.drop m) w5) := by
            have h := HR.out
            refine ⟨by rw [List.length_append]; exact hown5, by simp [h.len], by have := h.few; simp; omega, ?_, ?_, by rw [List.length_drop, h.left], by omega, HI2.out w ys h.left h.reads⟩
            · intro i u p hu hp
              by_cases hi : i < ps.length
              · rw [List.getElem?_append_left (by rw [h.len]; exact hi)] at hu
                rw [List.getElem?_append_left hi] at hp
                exact h.each i u p hu hp
              · have hik : i = ps.length := by
                  have := (List.getElem?_eq_some_iff.1 hp).1
                  simp at this
                  omega
                subst hik
                rw [List.getElem?_append_right (by rw [h.len]; exact Nat.le_refl _), h.len, Nat.sub_self] at hu
                rw [List.getElem?_append_right (Nat.le_refl _), Nat.sub_self] at hp
                simp at hu hp
                subst hu hp
                have hl := (HI1.out w ys h.left h.reads).fls (cap := m)
                rwa [List.length_take, h.left, Nat.min_eq_left hml] at hl
            · rw [List.flatten_append, List.append_assoc]
              simp only [List.flatten_cons, List.flatten_nil, List.append_nil]
              rw [List.take_append_drop]
              exact h.all
          have HG5 : Hid (Gr (w.heap.size + 1) [30] w1 w5) := HGR.out.trans ((Gr.alloc (Gr.refl _ _ _) _).trans (.of_append (HR.out.own.alloc _) hg5 (by simp)))
          clear hown5 hg5
          go_wp2_with fail
          go_roundw
          case rel => exact ⟨j + 1, by omega, by go_num, a2, l - m, cap' - m, _, _, _, rfl, HR5, HG5⟩
          case measure => simp [intOf]; omega
    · obtain rfl : j = n := by omega
      have HLN : Hid (ys.length = l) := HR.out.left
      go_wp2_with (at_builtin; refine wpList_append_own _ rfl _ _ 25 rfl (w.heap.size + 1) 30 i0 (.slice none 0 0) 1 24 Try.underlying25 hi hz0 hz1 hz2 rfl (by decide) _ _ _ rfl (HR.out.own.alloc _) ⟨wr.heap.size, 0, none⟩ 1 1 [.slice ao' l cap'] rfl rfl ?e1 ?e2 ?e3 ?e4 ?e5 ?_)
      case e1 => exact cell_one_new _ _ _
      case e2 => intro u hu; simp at hu; subst hu; rfl
      case e3 => have := HR.out.few; unfold maxLen; omega
      case e4 => have := HR.out.few; omega
      case e5 => have := HGR.out.size; simp; omega
      intro v' w5 hown5 hg5 _
      have HG5 : Hid (Gr (w.heap.size + 1) [30] w1 w5) := HGR.out.trans ((Gr.alloc (Gr.refl _ _ _) _).trans (.of_append (HR.out.own.alloc _) hg5 (by simp)))
      have HGW5 : Hid (w.grownBy w5 none) := by
        refine Gr.none (S := [30]) ((Gr.of_none HA.out).trans ⟨HG5.out.os, HG5.out.tape, HG5.out.output, HG5.out.size, fun i h1 h2 => ?_⟩)
        rcases h2 with h2 | h2
        · exact HG5.out.block i h1 (.inl (by omega))
        · exact HG5.out.block i h1 (.inr h2)
      have HLP : Hid (Lls w5 v' (ps ++ [ys])) := by
        have h := HR.out
        refine owns_sl hown5 (by simp [h.len]) ?_
        intro i u p hu hp
        by_cases hi : i < ps.length
        · rw [List.getElem?_append_left (by rw [h.len]; exact hi)] at hu
          rw [List.getElem?_append_left hi] at hp
          exact (h.each i u p hu hp).grown HGW5.out
        · have hik : i = ps.length := by
            have := (List.getElem?_eq_some_iff.1 hp).1
            simp at this
            omega
          subst hik
          rw [List.getElem?_append_right (by rw [h.len]; exact Nat.le_refl _), h.len, Nat.sub_self] at hu
          rw [List.getElem?_append_right (Nat.le_refl _), Nat.sub_self] at hp
          simp at hu hp
          subst hu hp
          have hl := (h.reads.grown HGW5.out).fls (cap := cap')
          rwa [h.left] at hl
      have HBX : Hid (Box w5 w.heap.size c) := HB.out.gr HG5.out (by simp)
      have HPS : Hid ((ps ++ [ys]).flatten = xs) := by
        unfold Hid
        rw [List.flatten_append]
        simp only [List.flatten_cons, List.flatten_nil, List.append_nil]
        exact HR.out.all
      have HPL : Hid ((ps ++ [ys]).length * 24 ≤ 140737488355328) := by unfold Hid; have := HR.out.few; simp; omega
      have HPP : Hid (∀ p ∈ ps ++ [ys], p.length * 8 ≤ 140737488355328) := by
        intro p hp
        have h1 : p.length ≤ xs.length := by
          rw [← HPS.out]
          exact List.Sublist.length_le (List.sublist_flatten_of_mem hp)
        rw [HL.out] at h1
        omega
      have HQL : Hid ((ps ++ [ys]).length ≤ 1048577) := by unfold Hid; have := HR.out.few; simp; omega
      generalize HQ : ps ++ [ys] = qs at HLP HPS HPL HPP HQL
      obtain ⟨f0, f1, f2, f3, f4⟩ := box_facts HBX.out
      clear hown5 hg5 HR HGR HQ HG5 HGW HB HA hi hz0 hz1 hz2 HC HN HLN
      go_wp2_with fail
      refine (strain_yes c _ _ qs _ HK.out HLP.out HPL.out HPP.out).mono ?_
      rintro e w6 ⟨v6, yss, rfl, HO6, HS6, HG6⟩
      have HB6 : Hid (Box w6 w.heap.size c) := HBX.out.grown HG6.out
      clear f0 f1 f2 f3 f4
      obtain ⟨f0, f1, f2, f3, f4⟩ := box_facts HB6.out
      have HXS : Hid (xs.length * 8 ≤ 140737488355328) := by unfold Hid; rw [HL.out]; omega
      have HL7 : Hid (Lls (w6.alloc (.cells #[.slice ao len cap] 30)) (.slice (some ⟨w6.heap.size, 0, none⟩) 1 1) [xs]) :=
        lls_new (vs := [.slice ao len cap]) (by rfl) fun i u x h1 h2 => by
          have hf : Fls w6 (.slice ao len cap) xs := by have := (HI.out.grown (grown_trans HGW5.out HG6.out)).fls (cap := cap); rwa [HL.out] at this
          match i, h1, h2 with
          | 0, h1, h2 => simp at h1 h2; subst h1 h2; exact hf
      go_wp2_with fail
      refine (strain_yes c _ _ [xs] _ HK.out HL7.out (by simp) (by intro p hp; simp at hp; subst hp; exact HXS.out)).mono ?_
      rintro e w8 ⟨v8, zss, rfl, HO8, HS8, HG8⟩
      have HG8' : Hid (w6.grownBy w8 none) := grown_trans (grown_alloc (grown_refl _ _) _) HG8.out
      clear f0 f1 f2 f3 f4
      have HGF : Hid (w.grownBy w8 none) := grown_trans (grown_trans HGW5.out HG6.out) HG8'.out
      obtain ⟨zc, rfl, hzc⟩ := map_one (a := outs c rest0 xs) (by simpa [strains] using HS8.out)
      have HY : Hid ((yss.flatten).map cn = outs c rest0 xs) := by
        have h1 := congrArg List.flatten HS6.out
        rw [FLaws.pieces c (-1) qs 0 rest0 (by omega), HPS.out] at h1
        unfold Hid
        rw [List.map_flatten]
        exact h1
      have HQN : Hid (yss.length ≤ 1048577) := by
        have h1 := congrArg List.length HS6.out
        rw [List.length_map, FLaws.strains_length] at h1
        unfold Hid
        rw [h1]
        exact HQL.out
      have HO6' := Lib.hid (Ols.grown HO6.out HG8'.out)
      obtain ⟨b8, o8, cap8, g8, rfl, k8, r8⟩ := ols_one HO8.out
      have lz : zc.length = len := by have := congrArg List.length hzc; rwa [List.length_map, outs_length, HL.out] at this
      rw [lz] at k8
      have LZ := Lib.hid lz
      have ZC := Lib.hid hzc
      have R8 := Lib.hid r8
      clear lz hzc r8 HO6 HS6 HO8 HS8 HG8 HG8' HG6 HL7 HXS HB6 HBX HLP HPL HPP HPS HGW5
      obtain ⟨a6, cap6, rfl, h6⟩ := sl_open HO6'.out
      have H6 := Lib.hid h6
      have HYL : Hid (yss.flatten.length = len) := by have := congrArg List.length HY.out; rwa [List.length_map, outs_length, HL.out] at this
      have hyn : yss.length ≤ 1048577 := HQN.out
      obtain ⟨i0, hi, hz0, hz1, hz2⟩ := info_parts info22
      clear h6 HO6'
      go_wp2_with fail
      go_loopw [15, 75] (fun v i wr => ∃ (k : Nat) (zs : List Nat), k ≤ yss.length ∧ i = .int .i64 k ∧ Hid (zs = (yss.take k).flatten) ∧ Hid (wr.ownsRow w8.heap.size 22 1 v zs.length (zs.map (Value.float .f64))) ∧ Hid (Gr w8.heap.size [22] w8 wr)) (fun _ i _ => yss.length - (intOf i).toNat)
      case atStart => exact ⟨0, [], Nat.zero_le _, rfl, rfl, World.ownsRow_nil _ _ _ _, Gr.refl _ _ _⟩
      case round =>
        obtain ⟨k, zs, hk, rfl, HZ, HO, HR⟩ := hrel
        have hGN : w8.grownBy wr none := HR.out.none
        have HGN := Lib.hid hGN
        clear hGN
        by_cases hlt : k < yss.length
        · obtain ⟨y, hyk⟩ : ∃ y, yss[k]? = some y := ⟨yss[k], List.getElem?_eq_getElem hlt⟩
          obtain ⟨b6, o6, u, rfl, hcu, hou⟩ := H6.out k y hyk
          obtain ⟨g, rfl, hrow⟩ := hou
          have hx : wr.cell? ⟨b6, o6 + k, none⟩ = some (.slice (some ⟨g, 0, none⟩) y.length y.length) := by have := HGN.out.cell hcu (by simp); simpa using this
          have HROW : Hid (wr.heap[g]? = some (.cells (y.map (Value.float .f64)).toArray 22 (0, 0))) := by unfold Hid; rw [HGN.out.block g (lt_of hrow) (by simp)]; exact hrow
          have HZ2 : Hid (zs ++ y = (yss.take (k + 1)).flatten) := by unfold Hid; rw [take_snoc hyk, List.flatten_append, HZ.out]; simp
          have hle : zs.length + y.length ≤ len := by
            have h1 : ((yss.take (k + 1)).flatten).length ≤ len := by
              rw [← HYL.out]
              have h2 := congrArg List.flatten (List.take_append_drop (k + 1) yss)
              rw [List.flatten_append] at h2
              rw [← h2, List.length_append]
              omega
            rw [← HZ2.out, List.length_append] at h1
            exact h1
          clear hcu hrow hyk
          go_wp2_with (at_builtin; refine wpList_append_own _ rfl _ _ 30 rfl w8.heap.size 22 i0 (.float .f64 0) 1 8 Try.underlying30 hi hz0 hz1 hz2 rfl (by decide) _ _ _ rfl HO.out ⟨g, 0, none⟩ y.length y.length (y.map (Value.float .f64)) rfl (by simp) ?d1 ?d2 ?d3 ?d4 ?d5 ?_)
          case d1 =>
            intro j u hu
            rw [show ((⟨g, 0, none⟩ : Addr).add j) = ⟨g, j, none⟩ from by rw [Addr.add_lit, Nat.zero_add], cell_of HROW.out]
            simpa using hu
          case d2 => intro u hu; simp at hu; obtain ⟨z, _, rfl⟩ := hu; rfl
          case d3 => unfold maxLen; omega
          case d4 => omega
          case d5 => exact HR.out.size
          intro v' w9 hown9 hg9 _
          have HO9 : Hid (w9.ownsRow w8.heap.size 22 1 v' (zs ++ y).length ((zs ++ y).map (Value.float .f64))) := by unfold Hid; rw [List.length_append, List.map_append]; exact hown9
          have HR9 : Hid (Gr w8.heap.size [22] w8 w9) := HR.out.trans (.of_append HO.out hg9 (by simp))
          clear hown9 hg9
          go_wp2_with fail
          go_roundw
          case rel => exact ⟨k + 1, zs ++ y, by omega, by go_num, HZ2, HO9, HR9⟩
          case measure => simp [intOf]; omega
        · obtain rfl : k = yss.length := by omega
          have HZF : Hid (zs.map cn = outs c rest0 xs) := by
            have := HZ.out
            rw [List.take_length] at this
            unfold Hid
            rw [this]
            exact HY.out
          have hzl : zs.length = len := by have := congrArg List.length HZF.out; rwa [List.length_map, outs_length, HL.out] at this
          obtain ⟨az, capz, hv15, hiz⟩ := fls_in (owns_sl (R := fun _ u x => u = .float .f64 x) (xs := zs) HO.out (by simp) (fun i u x h1 h2 => by rw [List.getElem?_map, h2] at h1; simpa using h1.symm))
          rw [hzl] at hv15
          subst hv15
          have HIZ := Lib.hid hiz
          have HZL := Lib.hid hzl
          have k8' : wr.cell? ⟨b8, o8, none⟩ = some (.slice (some ⟨g8, 0, none⟩) len len) := HGN.out.cell k8 (by simp)
          have HI8 : Hid (In wr (some ⟨g8, 0, none⟩) zc) := by
            intro i x hx
            exact ⟨g8, 0, rfl, HGN.out.cell (R8.out.fls hx) (by simp)⟩
          have HLK : Hid (likeAll zs zc = true) := by unfold Hid likeAll; rw [HZF.out, ZC.out]; simp
          have HCALL : Hid (∀ w, In w az zs → In w (some ⟨g8, 0, none⟩) zc → Calls Try.prog 9 #[.slice az len capz, .slice (some ⟨g8, 0, none⟩) len len] w fun e w' => e = .returned (.bool true) ∧ ∃ m, w' = w.drewN m) := by
            intro w h1 h2
            have := likeall_in az (some ⟨g8, 0, none⟩) capz len len zs zc w HZL.out LZ.out (by omega) h1 h2
            rwa [HLK.out] at this
          have HGE : Hid (w.grownBy wr none) := grown_trans HGF.out HGN.out
          clear hzl hiz k8 hi hz0 hz1 hz2
          go_wp2_with (go_at_call 9; refine (HCALL.out _ HIZ.out HI8.out).mono ?_; rintro e w10 ⟨rfl, m, hm⟩; have HM := Lib.hid hm; clear hm)
          go_ret
          exact ⟨rfl, by rw [HM.out]; exact grown_drewN HGE.out m⟩
set_option maxHeartbeats 2000000 in
set_option maxRecDepth 100000 in
theorem blocks_no (c : Co) (ao : Option Addr) (len cap : Nat) (xs : List Nat) (bo : Option Addr) (n bcap : Nat) (is : List Int) (w : World) (hlen : xs.length = len) (hl : len ≤ 1048576) (hlc : len ≤ cap) (hin : In w ao xs)
    (hn : is.length = n) (hn' : n ≤ 1048576) (hcuts : ∀ i x, is[i]? = some x → ∃ b off, bo = some ⟨b, off, none⟩ ∧ w.cell? ⟨b, off + i, none⟩ = some (.int .i64 x)) (hok : okAll c = false) :
    Calls Try.prog 5 #[.agg #[.float .f64 c.b0, .float .f64 c.b1, .float .f64 c.b2, .float .f64 c.a1, .float .f64 c.a2], .slice ao len cap, .slice bo n bcap] w fun e w' => e = .returned (.bool true) ∧ w.grownBy w' none := by
  obtain ⟨i0, hi, hz0, hz1, hz2⟩ := info_parts info30
  have HI := Lib.hid hin
  have HL := Lib.hid hlen
  have HK := Lib.hid hok
  have HC := Lib.hid hcuts
  have HN := Lib.hid hn
  clear hin hlen hok hcuts hn
  go_enter Try.func5, Try.ntmps5
  go_wp2_with (go_at_call 11; refine (alive_calls _).mono ?_; rintro e w1 ⟨rfl, hg⟩; have HG1 := Lib.hid hg; clear hg)
  have hw1 : w.heap.size + 1 ≤ w1.heap.size := by have := HG1.out.size; simpa using this
  have HA : Hid (w.grownBy w1 none) := grown_trans (grown_alloc (grown_refl _ _) _) HG1.out
  have HB : Hid (Box w1 w.heap.size c) := Box.grown (heap_alloc_new _ _) HG1.out
  clear HG1
  go_loopw [7, 8, 23] (fun v u i wr => ∃ j : Nat, j ≤ n ∧ i = .int .i64 j ∧ ∃ (ao' : Option Addr) (l cap' : Nat) (vs : List Value) (ps : List (List Nat)) (ys : List Nat), u = .slice ao' l cap' ∧ Hid (Cut w xs j v ao' l cap' vs ps ys wr) ∧ Hid (Gr (w.heap.size + 1) [30] w1 wr)) (fun _ _ i _ => n - (intOf i).toNat)
  case atStart => exact ⟨0, Nat.zero_le _, rfl, ao, len, cap, [], [], xs, rfl, ⟨World.ownsRow_nil _ _ _ _, rfl, Nat.le_refl _, fun i u p h => by simp at h, rfl, HL.out, hlc, HI.out⟩, Gr.refl _ _ _⟩
  case round =>
    obtain ⟨j, hj, rfl, ao', l, cap', vs, ps, ys, rfl, HR, HGR⟩ := hrel
    have HGW : Hid (w.grownBy wr none) := by
      refine Gr.none (S := [30]) ((Gr.of_none HA.out).trans ⟨HGR.out.os, HGR.out.tape, HGR.out.output, HGR.out.size, fun i h1 h2 => ?_⟩)
      rcases h2 with h2 | h2
      · exact HGR.out.block i h1 (.inl (by omega))
      · exact HGR.out.block i h1 (.inr h2)
    have hll : l ≤ 1048576 := by have h1 := HR.out.left; have h2 := congrArg List.length HR.out.all; rw [List.length_append, HL.out] at h2; omega
    have hcc : l ≤ cap' := HR.out.within
    by_cases hjn : j < n
    · obtain ⟨x, hxj⟩ : ∃ x, is[j]? = some x := ⟨is[j]'(by rw [HN.out]; omega), List.getElem?_eq_getElem (by rw [HN.out]; omega)⟩
      obtain ⟨b, off, rfl, hx0⟩ := HC.out j x hxj
      have hx : wr.cell? ⟨b, off + j, none⟩ = some (.int .i64 x) := HGW.out.cell hx0 (by simp)
      clear hx0 hxj
      by_cases hneg : x < 0
      · go_wp2_with fail
        go_roundw
        case rel => exact ⟨j + 1, by omega, by go_num, ao', l, cap', vs, ps, ys, rfl, ⟨HR.out.own, HR.out.len, by have := HR.out.few; omega, HR.out.each, HR.out.all, HR.out.left, HR.out.within, HR.out.reads⟩, HGR⟩
        case measure => simp [intOf]; omega
      · by_cases hbig : (l : Int) < x
        · go_wp2_with fail
          go_roundw
          case rel => exact ⟨j + 1, by omega, by go_num, ao', l, cap', vs, ps, ys, rfl, ⟨HR.out.own, HR.out.len, by have := HR.out.few; omega, HR.out.each, HR.out.all, HR.out.left, HR.out.within, HR.out.reads⟩, HGR⟩
          case measure => simp [intOf]; omega
        · obtain ⟨m, rfl⟩ := Int.eq_ofNat_of_zero_le (show 0 ≤ x by omega)
          have hml : m ≤ l := by omega
          obtain ⟨a1, hs1, hi1⟩ := slice_hi ao' l cap' m hml hcc
          obtain ⟨a2, hs2, hi2⟩ := slice_lo ao' l cap' m hml hcc
          have HI1 := Lib.hid hi1
          have HI2 := Lib.hid hi2
          clear hi1 hi2
          go_wp2_with (at_builtin; refine wpList_append_own _ rfl _ _ 25 rfl (w.heap.size + 1) 30 i0 (.slice none 0 0) 1 24 Try.underlying25 hi hz0 hz1 hz2 rfl (by decide) _ _ _ rfl (HR.out.own.alloc _) ⟨wr.heap.size, 0, none⟩ 1 1 [.slice a1 m m] rfl rfl ?c1 ?c2 ?c3 ?c4 ?c5 ?_)
          case c2 => rfl
          case c3 => have := HR.out.few; unfold maxLen; omega
          case c4 => have := HR.out.few; omega
          case c5 => have := HGW.out.size; omega
          intro v' w5 hown5 hg5 _
          have HR5 : Hid (Cut w xs (j + 1) v' a2 (l - m) (cap' - m) (vs ++ [.slice a1 m m]) (ps ++ [ys.take m]) (ys.drop m) w5) := by
            have h := HR.out
            refine ⟨by rw [List.length_append]; exact hown5, by simp [h.len], by have := h.few; simp; omega, ?_, ?_, by rw [List.length_drop, h.left], by omega, HI2.out w ys h.left h.reads⟩
            · intro i u p hu hp
              by_cases hi : i < ps.length
              · rw [List.getElem?_append_left (by rw [h.len]; exact hi)] at hu
                rw [List.getElem?_append_left hi] at hp
                exact h.each i u p hu hp
              · have hik : i = ps.length := by
                  have := (List.getElem?_eq_some_iff.1 hp).1
                  simp at this
                  omega
                subst hik
                rw [List.getElem?_append_right (by rw [h.len]; exact Nat.le_refl _), h.len, Nat.sub_self] at hu
                rw [List.getElem?_append_right (Nat.le_refl _), Nat.sub_self] at hp
                simp at hu hp
                subst hu hp
                have hl := (HI1.out w ys h.left h.reads).fls (cap := m)
                rwa [List.length_take, h.left, Nat.min_eq_left hml] at hl
            · rw [List.flatten_append, List.append_assoc]
              simp only [List.flatten_cons, List.flatten_nil, List.append_nil]
              rw [List.take_append_drop]
              exact h.all
          have HG5 : Hid (Gr (w.heap.size + 1) [30] w1 w5) := HGR.out.trans ((Gr.alloc (Gr.refl _ _ _) _).trans (.of_append (HR.out.own.alloc _) hg5 (by simp)))
          clear hown5 hg5
          go_wp2_with fail
          go_roundw
          case rel => exact ⟨j + 1, by omega, by go_num, a2, l - m, cap' - m, _, _, _, rfl, HR5, HG5⟩
          case measure => simp [intOf]; omega
    · obtain rfl : j = n := by omega
      have HLN : Hid (ys.length = l) := HR.out.left
      go_wp2_with (at_builtin; refine wpList_append_own _ rfl _ _ 25 rfl (w.heap.size + 1) 30 i0 (.slice none 0 0) 1 24 Try.underlying25 hi hz0 hz1 hz2 rfl (by decide) _ _ _ rfl (HR.out.own.alloc _) ⟨wr.heap.size, 0, none⟩ 1 1 [.slice ao' l cap'] rfl rfl ?e1 ?e2 ?e3 ?e4 ?e5 ?_)
      case e1 => exact cell_one_new _ _ _
      case e2 => intro u hu; simp at hu; subst hu; rfl
      case e3 => have := HR.out.few; unfold maxLen; omega
      case e4 => have := HR.out.few; omega
      case e5 => have := HGR.out.size; simp; omega
      intro v' w5 hown5 hg5 _
      have HG5 : Hid (Gr (w.heap.size + 1) [30] w1 w5) := HGR.out.trans ((Gr.alloc (Gr.refl _ _ _) _).trans (.of_append (HR.out.own.alloc _) hg5 (by simp)))
      have HGW5 : Hid (w.grownBy w5 none) := by
        refine Gr.none (S := [30]) ((Gr.of_none HA.out).trans ⟨HG5.out.os, HG5.out.tape, HG5.out.output, HG5.out.size, fun i h1 h2 => ?_⟩)
        rcases h2 with h2 | h2
        · exact HG5.out.block i h1 (.inl (by omega))
        · exact HG5.out.block i h1 (.inr h2)
      have HLP : Hid (Lls w5 v' (ps ++ [ys])) := by
        have h := HR.out
        refine owns_sl hown5 (by simp [h.len]) ?_
        intro i u p hu hp
        by_cases hi : i < ps.length
        · rw [List.getElem?_append_left (by rw [h.len]; exact hi)] at hu
          rw [List.getElem?_append_left hi] at hp
          exact (h.each i u p hu hp).grown HGW5.out
        · have hik : i = ps.length := by
            have := (List.getElem?_eq_some_iff.1 hp).1
            simp at this
            omega
          subst hik
          rw [List.getElem?_append_right (by rw [h.len]; exact Nat.le_refl _), h.len, Nat.sub_self] at hu
          rw [List.getElem?_append_right (Nat.le_refl _), Nat.sub_self] at hp
          simp at hu hp
          subst hu hp
          have hl := (h.reads.grown HGW5.out).fls (cap := cap')
          rwa [h.left] at hl
      have HBX : Hid (Box w5 w.heap.size c) := HB.out.gr HG5.out (by simp)
      obtain ⟨f0, f1, f2, f3, f4⟩ := box_facts HBX.out
      clear hown5 hg5 HR HGR HG5 HGW HB HA hi hz0 hz1 hz2 HC HN HLN HLP
      go_wp2_with fail
      refine (strain_not c _ _ [] _ HK.out).mono ?_
      rintro e w6 ⟨rfl, HG6⟩
      have HB6 : Hid (Box w6 w.heap.size c) := HBX.out.grown HG6.out
      clear f0 f1 f2 f3 f4
      obtain ⟨f0, f1, f2, f3, f4⟩ := box_facts HB6.out
      go_wp2_with fail
      refine (strain_not c _ _ [] _ HK.out).mono ?_
      rintro e w8 ⟨rfl, HG8⟩
      have HGF : Hid (w.grownBy w8 none) := grown_trans (grown_trans HGW5.out HG6.out) (grown_trans (grown_alloc (grown_refl _ _) _) HG8.out)
      go_wp2_with fail
      go_ret
      exact ⟨rfl, HGF.out⟩

theorem in_of_fls {w : World} {ao : Option Addr} {len cap : Nat} {xs : List Nat} (h : Fls w (.slice ao len cap) xs) : xs.length = len ∧ In w ao xs := by
  obtain ⟨a, c, e, hi⟩ := fls_in h
  simp only [Value.slice.injEq] at e
  obtain ⟨rfl, rfl, _⟩ := e
  exact ⟨rfl, hi⟩

/-- THE LAW's WALK. -/
theorem blocks_walk (c : Co) (ao : Option Addr) (len cap : Nat) (xs : List Nat) (v : Value) (is : List Int) (w : World) (hl : len ≤ 1048576) (hlc : len ≤ cap) (hv : Fls w (.slice ao len cap) xs) (hn : is.length ≤ 1048576) (hi : Ils w v is) :
    Calls Try.prog 5 #[.agg #[.float .f64 c.b0, .float .f64 c.b1, .float .f64 c.b2, .float .f64 c.a1, .float .f64 c.a2], .slice ao len cap, v] w fun e w' => e = .returned (.bool true) ∧ w.grownBy w' none := by
  obtain ⟨bo, bcap, rfl, hb⟩ := sl_open hi
  obtain ⟨hlen, hin⟩ := in_of_fls hv
  have hb' : ∀ i x, is[i]? = some x → ∃ b off, bo = some ⟨b, off, none⟩ ∧ w.cell? ⟨b, off + i, none⟩ = some (.int .i64 x) := fun i x hx => by
    obtain ⟨b, off, u, h1, h2, rfl⟩ := hb i x hx
    exact ⟨b, off, h1, h2⟩
  by_cases hok : okAll c = true
  · exact blocks_yes c ao len cap xs bo is.length bcap is w hlen hl hlc hin rfl hn hb' hok
  · exact blocks_no c ao len cap xs bo is.length bcap is w hlen hl hlc hin rfl hn hb' (by simpa using hok)

end Go.Proofs.Ytonpopiofmojnaa.FBlocks
