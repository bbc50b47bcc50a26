/- At rest it is as new: the law's walk. -/
import Derived.Test.YtdliilmnfbgplaaGM8
namespace Go.Proofs.Ytdliilmnfbgplaa.GRestsL
open Go Go.RowKit Go.Proofs.Ytdliilmnfbgplaa.GPiece Go.Proofs.Ytdliilmnfbgplaa.Fl Go.Proofs.Ytdliilmnfbgplaa.Fw Go.Proofs.Ytdliilmnfbgplaa.GRd Go.Proofs.Ytdliilmnfbgplaa.GCells Go.Proofs.Ytdliilmnfbgplaa.GStep Go.Proofs.Ytdliilmnfbgplaa.GMod Go.Proofs.Ytdliilmnfbgplaa.GOrd Go.Proofs.Ytdliilmnfbgplaa.GMem Go.Proofs.Ytdliilmnfbgplaa.GNode Go.Proofs.Ytdliilmnfbgplaa.GPMem Go.Proofs.Ytdliilmnfbgplaa.GPState Go.Proofs.Ytdliilmnfbgplaa.GOuts Go.Proofs.Ytdliilmnfbgplaa.GSub Go.Proofs.Ytdliilmnfbgplaa.GMade Go.Proofs.Ytdliilmnfbgplaa.GSort Go.Proofs.Ytdliilmnfbgplaa.GNewS Go.Proofs.Ytdliilmnfbgplaa.GNew Go.Proofs.Ytdliilmnfbgplaa.GSoundS Go.Proofs.Ytdliilmnfbgplaa.GSound Go.Proofs.Ytdliilmnfbgplaa.GAlive Go.Proofs.Ytdliilmnfbgplaa.GRestsP Go.Proofs.Ytdliilmnfbgplaa.Hp Go.Proofs.Ytdliilmnfbgplaa.Rd Go.Proofs.Ytdliilmnfbgplaa.Opn
set_option linter.unusedVariables false
set_option linter.unusedSimpArgs false

/-- Rows that are the same up to their NaNs are told to be so. -/
theorem like_same (A1 A2 : Nat → Prop) (a1 a2 : Option Addr) (c1 c2 : Nat) (l : List Nat) (w : World) (hn : l.length < 9223372036854775808) (h1 : CFl w A1 (.slice a1 l.length c1) l) (h2 : CFl w A2 (.slice a2 l.length c2) l) :
    Calls Try.prog 11 #[.slice a1 l.length c1, .slice a2 l.length c2] w fun e w' => e = .returned (.bool true) ∧ ∃ m, w' = w.drewN m := by
  obtain ⟨xs, hx, hxl⟩ := h1
  obtain ⟨ys, hy, hyl⟩ := h2
  have hlx : xs.length = l.length := by rw [← hxl, List.length_map]
  have hly : ys.length = l.length := by rw [← hyl, List.length_map]
  have hlk : GFNew.likeAll xs ys = true := by
    unfold GFNew.likeAll
    rw [hxl, hyl]
    simp
  obtain ⟨n, hnl⟩ : ∃ n, l.length = n := ⟨_, rfl⟩
  rw [hnl] at hx hy hlx hly hn ⊢
  cases n with
  | zero =>
    have e1 := List.eq_nil_of_length_eq_zero hlx
    have e2 := List.eq_nil_of_length_eq_zero hly
    exact (GFLike.likeall_nil a1 a2 c1 c2 w).mono fun e w' h => h
  | succ n =>
    obtain ⟨b1, o1, rfl, _, _⟩ := sla_at hx (i := 0) (x := xs[0]'(by omega)) (List.getElem?_eq_getElem (by omega))
    obtain ⟨b2, o2, rfl, _, _⟩ := sla_at hy (i := 0) (x := ys[0]'(by omega)) (List.getElem?_eq_getElem (by omega))
    have h := GFLike.likeall_walk b1 o1 c1 b2 o2 c2 (n + 1) xs ys w hlx hly hn (fun i x hi => ?_) (fun i x hi => ?_)
    · rw [hlk] at h
      exact h.mono fun e w' h => h
    · obtain ⟨b, o, e, _, hr⟩ := sla_at hx hi
      simp only [Option.some.injEq, Addr.mk.injEq, and_true] at e
      obtain ⟨rfl, rfl⟩ := e
      have := hr 0 _ rfl
      rw [Nat.mul_one] at this
      exact this
    · obtain ⟨b, o, e, _, hr⟩ := sla_at hy hi
      simp only [Option.some.injEq, Addr.mk.injEq, and_true] at e
      obtain ⟨rfl, rfl⟩ := e
      have := hr 0 _ rfl
      rw [Nat.mul_one] at this
      exact this

/-- Rows of silence: the first k are there. -/
structure SilS (W wr : World) (sb K k m : Nat) (vs : List Value) : Prop where
  row : wr.heap[sb]? = some (.cells vs.toArray 38 (0, 0))
  len : vs.length = K
  val : ∀ i, i < k → ∃ b, vs[i]? = some (.slice (some ⟨b, 0, none⟩) m m) ∧ RowF wr b (List.replicate m 0) ∧ b ≠ sb
  gr : W.grownBy wr none
  sbW : W.heap.size ≤ sb
theorem SilS.next {W wr w2 : World} {sb K k m : Nat} {vs : List Value} (h : SilS W wr sb K k m vs) (hg : wr.grownBy w2 none) (hk : k < K) (hr : RowF w2 wr.heap.size (List.replicate m 0)) :
    SilS W (w2.setCell ⟨sb, k, none⟩ (.slice (some ⟨wr.heap.size, 0, none⟩) m m)) sb K (k + 1) m (vs.set k (.slice (some ⟨wr.heap.size, 0, none⟩) m m)) := by
  have hrow := row_kept hg h.row (by simp)
  have hl := lt_of h.row
  have hf : Fr (fun b => b = sb) w2 (w2.setCell ⟨sb, k, none⟩ (.slice (some ⟨wr.heap.size, 0, none⟩) m m)) := fr_set (X := fun b => b = sb) (p := ⟨sb, k, none⟩) (Fr.refl _ _) (.inl rfl) _
  refine ⟨by rw [set_self hrow, List.setIfInBounds_toArray], by rw [List.length_set]; exact h.len, fun i hi => ?_, grown_set (p := ⟨sb, k, none⟩) (grown_trans h.gr hg) (.inr h.sbW) _, h.sbW⟩
  by_cases e : k = i
  · subst e
    exact ⟨wr.heap.size, List.getElem?_set_self (by rw [h.len]; exact hk), hr.fr hf (fun e => by omega), by omega⟩
  · obtain ⟨b, h1, h2, h3⟩ := h.val i (by omega)
    exact ⟨b, by rw [List.getElem?_set_ne e]; exact h1, (h2.fr (X := fun _ => False) (.none hg) id).fr hf h3, h3⟩
theorem SilS.reads {W wr : World} {sb K m : Nat} {vs : List Value} (h : SilS W wr sb K K m vs) : InsR wr (fun b => b < wr.heap.size) (.slice (some ⟨sb, 0, none⟩) K K) (List.replicate K (List.replicate m 0)) := by
  refine ⟨vs, by rw [h.len, List.length_replicate], .inl ⟨sb, 0, K, lt_of h.row, by rw [h.len], fun i u hu j x hx => ?_⟩, fun i u l hu hl => ?_⟩
  · cases j with
    | zero =>
      simp [vC] at hx
      subst hx
      rw [Nat.zero_add, Nat.mul_one, Nat.add_zero, cell_of h.row]
      simpa using hu
    | succ j => simp [vC] at hx
  · have hi := (List.getElem?_eq_some_iff.1 hu).1
    rw [h.len] at hi
    rw [List.getElem?_replicate, if_pos hi] at hl
    injection hl with hl
    subst hl
    obtain ⟨b, h1, h2, _⟩ := h.val i hi
    rw [h1] at hu
    injection hu with hu
    subst hu
    refine ⟨⟨List.replicate m 0, RowF.fl h2 List.length_replicate (lt_of h2) m, by rw [List.map_replicate, GFNew.cn_zero]⟩, some ⟨b, 0, none⟩, m, by rw [List.length_replicate], by rw [List.length_replicate]; exact Nat.le_refl _⟩

set_option maxHeartbeats 8000000 in
set_option maxRecDepth 100000 in
theorem law (g : Gd) (na oa : Option Addr) (nc oc : Nat) (ia : Option Addr) (ic : Nat) (ls : List (List Nat)) (n m : Int) (W : World) (hnd : NdsR W (fun b => b < W.heap.size) (.slice na g.nodes.length nc) g.nodes) (hou : SlA 1 iC W (fun b => b < W.heap.size) (.slice oa g.outs.length oc) g.outs)
    (hfl : ∀ x ∈ g.nodes, x.from_.length ≤ 1048576 ∧ x.pt.step < 4294967296) (hin : InsR W (fun b => b < W.heap.size) (.slice ia ls.length ic) ls) (hil : ls.length ≤ 1048576) :
    Calls Try.prog 6 #[gdV g.ins (.slice na g.nodes.length nc) (.slice oa g.outs.length oc), .slice ia ls.length ic, .int .i64 n, .int .i64 m] W fun e w' => e = .returned (.bool true) ∧ Hid (W.grownBy w' none) := by
  obtain ⟨K, hK⟩ : ∃ K, ls.length = K := ⟨_, rfl⟩
  have HND := Lib.hid hnd
  have HOU := Lib.hid hou
  have HFL := Lib.hid hfl
  rw [hK] at hin hil ⊢
  have HK := Lib.hid hK
  have HIN := Lib.hid hin
  have AC := fun w => Lib.hid (alive_calls w)
  obtain ⟨N, hN⟩ : ∃ N, g.nodes.length = N := ⟨_, rfl⟩
  obtain ⟨M, hM⟩ : ∃ M, g.outs.length = M := ⟨_, rfl⟩
  obtain ⟨ins, hins⟩ : ∃ ins, g.ins = ins := ⟨_, rfl⟩
  unfold gdV
  rw [hN, hM, hins]
  have HN := Lib.hid hN
  have HM := Lib.hid hM
  have HI := Lib.hid hins
  have HGA : Hid (W.grownBy (W.alloc (.cells #[.int .i64 ins, .slice na N nc, .slice oa M oc] 25)) none) := grown_alloc (grown_refl _ _) _
  have HAB : Hid ((W.alloc (.cells #[.int .i64 ins, .slice na N nc, .slice oa M oc] 25)).heap[W.heap.size]? = some (.cells #[.int .i64 ins, .slice na N nc, .slice oa M oc] 25 (0, 0))) := heap_alloc_new _ _
  clear hnd hou hfl hin hK hN hM hins
  go_enter Try.func6, Try.ntmps6
  go_upto_region 3 with (go_at_call 12; refine ((AC _).out).mono ?_; rintro ez w2 ⟨rfl, hg2⟩)
  have HG2 : Hid (W.grownBy w2 none) := grown_trans HGA.out hg2.out
  have HAB2 := Lib.hid (row_kept hg2.out HAB.out (by simp))
  clear hg2 HAB HGA AC
  by_cases h1 : n < 0
  · go_wp2_with fail
    go_ret
    exact ⟨rfl, HG2.out⟩
  by_cases h2 : 5000 < n
  · go_wp2_with fail
    go_ret
    exact ⟨rfl, HG2.out⟩
  by_cases h3 : m < 0
  · go_wp2_with fail
    go_ret
    exact ⟨rfl, HG2.out⟩
  by_cases h4 : 5000 < m
  · go_wp2_with fail
    go_ret
    exact ⟨rfl, HG2.out⟩
  obtain ⟨mm, rfl⟩ : ∃ mm : Nat, m = (mm : Int) := Int.eq_ofNat_of_zero_le (by omega)
  obtain ⟨j0, hj38, hj0, hj1, hj2⟩ := info_parts info38
  obtain ⟨i0, hi, hz0, hz1, hz2⟩ := info_parts info46
  go_upto_region 6 with (at_make; refine wpList_make_full _ rfl _ _ 32 rfl w2.heap.size 38 j0 (.slice none 0 0) 1 Try.underlying32 hj38 hj0 hj1 _ _ _ _ K rfl rfl rfl rfl (by rw [hj2]; omega) (by unfold maxLen; omega) (Nat.le_refl _) ?_; intro w3 hown3 hg3)
  have HS0 : Hid (SilS W w3 w2.heap.size K 0 mm (List.replicate K (.slice none 0 0))) := by
    refine ⟨?_, List.length_replicate, fun i hi => absurd hi (Nat.not_lt_zero i), grown_trans HG2.out hg3, HG2.out.size⟩
    rw [show (madeCells (Value.slice none 0 0).cells (K * 1)).toList = List.replicate K (Value.slice none 0 0) from by rw [Nat.mul_one]; exact madeCells_one _ _] at hown3
    exact new_of_made hown3
  have HAB3 := Lib.hid (row_kept hg3 HAB2.out (by simp))
  obtain ⟨sb, hsb⟩ : ∃ sb, w2.heap.size = sb := ⟨_, rfl⟩
  have hsa := lt_of HAB2.out
  rw [hsb] at HS0 hsa
  have HSA := Lib.hid hsa
  simp only [hsb]
  clear hown3 hg3 hsb HAB2 HG2 hsa
  go_wp2_with fail
  go_loopw [10, 35] (fun v10 v35 wr => ∃ (k : Nat) (vs : List Value), k ≤ K ∧ v35 = .int .i64 (k : Int) ∧ Hid (SilS W wr sb K k mm vs) ∧ Hid (wr.heap[W.heap.size]? = some (.cells #[.int .i64 ins, .slice na N nc, .slice oa M oc] 25 (0, 0)))) (fun _ v35 _ => K - (intOf v35).toNat)
  case atStart => exact ⟨0, _, Nat.zero_le _, rfl, HS0.out, HAB3.out⟩
  case round =>
    obtain ⟨k, vs, hk, rfl, HSL, HAB4⟩ := hrel
    obtain ⟨wz, hwz⟩ : ∃ wz : World, wz = wr := ⟨_, rfl⟩
    subst hwz
    by_cases hkK : k = K
    · have h9 := hkK.symm
      subst h9
      clear hkK
      have hb9 := heap_alloc_new wz (.cells #[.slice ia K ic, .int .i64 n, .bool false, .slice (some ⟨sb, 0, none⟩) K K, .int .i64 (mm : Int), .bool false, .slice ia K ic, .int .i64 n, .bool true] 34)
      have hg9 : wz.grownBy (wz.alloc (.cells #[.slice ia K ic, .int .i64 n, .bool false, .slice (some ⟨sb, 0, none⟩) K K, .int .i64 (mm : Int), .bool false, .slice ia K ic, .int .i64 n, .bool true] 34)) none := grown_alloc (grown_refl _ _) _
      have hs9 : (wz.alloc (.cells #[.slice ia K ic, .int .i64 n, .bool false, .slice (some ⟨sb, 0, none⟩) K K, .int .i64 (mm : Int), .bool false, .slice ia K ic, .int .i64 n, .bool true] 34)).heap.size = wz.heap.size + 1 := by simp
      have HGZ := Lib.hid (grown_trans HSL.out.gr hg9)
      have hsw := HSL.out.gr.size
      have hA : ∀ b, b < W.heap.size → b < wz.heap.size + 1 := fun b hb => by omega
      have SC := sound_calls (fun b => b < wz.heap.size + 1) g na oa nc oc (some ⟨wz.heap.size, 0, none⟩) 3 [⟨ls, n, false⟩, ⟨List.replicate K (List.replicate mm 0), (mm : Int), false⟩, ⟨ls, n, true⟩] _
        ((HND.out.fr (X := fun _ => False) (.none HGZ.out) (fun _ _ => id)).mono hA) ((HOU.out.grown HGZ.out).mono hA) HFL.out
        ⟨[(⟨ls, n, false⟩, .slice ia K ic), (⟨List.replicate K (List.replicate mm 0), (mm : Int), false⟩, .slice (some ⟨sb, 0, none⟩) K K), (⟨ls, n, true⟩, .slice ia K ic)], rfl,
          sla_whole pcC_len (xs := [(⟨ls, n, false⟩, .slice ia K ic), (⟨List.replicate K (List.replicate mm 0), (mm : Int), false⟩, .slice (some ⟨sb, 0, none⟩) K K), (⟨ls, n, true⟩, .slice ia K ic)]) hb9 (by omega), fun p hp => by
            simp only [List.mem_cons, List.not_mem_nil, or_false] at hp
            rcases hp with rfl | rfl | rfl
            · exact (InsR.grown HIN.out HGZ.out).mono hA
            · exact (InsR.grown HSL.out.reads hg9).mono (fun b hb => by omega)
            · exact (InsR.grown HIN.out HGZ.out).mono hA⟩
        (fun b hb => by rw [hs9]; exact hb) (fun p hp => by
          simp only [List.mem_cons, List.not_mem_nil, or_false] at hp
          rcases hp with rfl | rfl | rfl
          · dsimp only; rw [HK.out]; exact hil
          · dsimp only; rw [List.length_replicate]; exact hil
          · dsimp only; rw [HK.out]; exact hil) (by show (3 : Nat) ≤ _; decide)
      unfold gdV at SC
      rw [HN.out, HM.out, HI.out] at SC
      have HSC := Lib.hid SC
      have c0 := cell_of HAB4.out 0
      have c1 := cell_of HAB4.out 1
      have c2 := cell_of HAB4.out 2
      clear SC hb9 hg9 hs9 hsw hA
      go_upto_region 14 with (go_at_call 7; refine (HSC.out).mono ?_; rintro ez w4 ⟨hg4, ⟨hp, rfl⟩ | ⟨hp, s, hv, rfl⟩ | ⟨hp, s, ov, hv, rfl, hhd⟩⟩)
      · go_ret
        exact ⟨rfl, grown_trans HGZ.out hg4.out⟩
      · go_ret
        exact ⟨rfl, grown_trans HGZ.out hg4.out⟩
      obtain ⟨r1, r2, hr, hr1⟩ := rests g s.order (chunkK g.nodes) ls (List.replicate K (List.replicate mm 0)) n (mm : Int)
      have hh := hhd.out
      rw [hr] at hh
      obtain ⟨ao, c, rfl⟩ := hds_open hh
      obtain ⟨b1, o1, oa1, oc1, rfl, d0, d1, hcl1⟩ := hds_at hh (i := 0) rfl
      obtain ⟨b2, o2, oa2, oc2, hb2, d4, d5, hcl2⟩ := hds_at hh (i := 2) rfl
      simp only [Option.some.injEq, Addr.mk.injEq, and_true] at hb2
      obtain ⟨rfl, rfl⟩ := hb2
      have hle := runG_le g s.order (chunkK g.nodes) (g.nodes.map GMod.start) ls n
      rw [← hr1] at hle
      have hM256 : g.outs.length ≤ 256 := by
        rcases Nat.lt_or_ge 256 g.outs.length with h | h
        · have h9 := pre5 (g := g) (.inr (.inl h))
          omega
        · exact h
      clear hr1
      obtain ⟨o, re⟩ := r1
      dsimp only at hle
      simp only [List.length_cons, List.length_nil, Nat.zero_mul, Nat.add_zero, Nat.zero_add, Nat.reduceMul, Nat.reduceAdd] at d0 d1 d4 d5 hcl1 hcl2 ⊢
      obtain ⟨OL, hOL⟩ : ∃ OL, o.length = OL := ⟨_, rfl⟩
      rw [hOL] at d0 d4 hcl1 hcl2
      have HOL := Lib.hid hOL
      have hOLs : OL ≤ 256 := by omega
      have HLE : Hid (∀ l ∈ o, l.length ≤ 5000) := fun l hl => by have := hle.1 l hl; omega
      have HC1 := Lib.hid hcl1
      have HC2 := Lib.hid hcl2
      have HGF : Hid (W.grownBy w4 none) := grown_trans HGZ.out hg4.out
      clear hh hhd hr hv hp hg4 hle hM256 HSC hcl1 hcl2 hOL c0 c1 c2
      go_quiet (fail)
      obtain ⟨w5, hw5⟩ : ∃ w5, w4.drewN nq = w5 := ⟨_, rfl⟩
      have HG5 : Hid (w4.grownBy w5 none) := by unfold Hid; rw [← hw5]; exact grown_drewN (grown_refl _ _) nq
      simp only [hw5]
      clear hw5
      have HGF5 : Hid (W.grownBy w5 none) := grown_trans HGF.out HG5.out
      have HC15 := Lib.hid (HC1.out.grown HG5.out)
      have HC25 := Lib.hid (HC2.out.grown HG5.out)
      replace d0 := grown_cell HG5.out d0 (by simp)
      replace d4 := grown_cell HG5.out d4 (by simp)
      clear d1 d5 HG5 HGF HC1 HC2
      go_wp2_with fail
      go_loopw [13, 93] (fun v13 v93 wr => ∃ q m2 : Nat, q ≤ OL ∧ v93 = .int .i64 (q : Int) ∧ wr = w5.drewN m2) (fun _ v93 _ => OL - (intOf v93).toNat)
      case atStart => exact ⟨0, 0, Nat.zero_le _, rfl, rfl⟩
      case round =>
        obtain ⟨q, m2, hq, rfl, rfl⟩ := hrel
        obtain ⟨wq, hwq⟩ : ∃ wq, w5.drewN m2 = wq := ⟨_, rfl⟩
        have HWQ := Lib.hid hwq
        have HGQ : Hid (w5.grownBy wq none) := by unfold Hid; rw [← hwq]; exact grown_drewN (grown_refl _ _) m2
        simp only [hwq]
        clear hwq
        by_cases hqO : q = OL
        · subst hqO
          go_wp2_with fail
          go_ret
          exact ⟨rfl, grown_trans HGF5.out HGQ.out⟩
        have hql : (q : Int) < (OL : Int) := by omega
        have hql2 : q < OL := by omega
        have hwq1 : IntKind.i64.wrap ((q : Int) + 1) = (q : Int) + 1 := IntWalk.i64_in _ (by omega)
        obtain ⟨l, hl⟩ : ∃ l, o[q]? = some l := ⟨o[q]'(by rw [HOL.out]; exact hql2), List.getElem?_eq_getElem _⟩
        obtain ⟨b5, o5, ra1, rc1, rfl, _, e1, f1⟩ := cll_at (HC15.out.grown HGQ.out) hl
        obtain ⟨b6, o6, ra2, rc2, rfl, _, e2, f2⟩ := cll_at (HC25.out.grown HGQ.out) hl
        obtain ⟨LL, hLL⟩ : ∃ LL, l.length = LL := ⟨_, rfl⟩
        have LK : Hid (∀ k : Nat, Calls Try.prog 11 #[.slice ra1 LL rc1, .slice ra2 LL rc2] (wq.drewN k) fun e w' => e = .returned (.bool true) ∧ ∃ m, w' = (wq.drewN k).drewN m) := fun k => by
          have h := like_same _ _ ra1 ra2 rc1 rc2 l (wq.drewN k) (by have := HLE.out l (List.mem_of_getElem? hl); omega) (f1.grown (grown_drewN (grown_refl _ _) k)) (f2.grown (grown_drewN (grown_refl _ _) k))
          rw [hLL] at h
          exact h
        rw [hLL] at e1 e2
        have c0 := grown_cell HGQ.out d0 (by simp)
        have c4 := grown_cell HGQ.out d4 (by simp)
        clear hl f1 f2 hLL
        go_upto_region 19 with fail
        go_quiet ((go_at_call 11; exact Calls.quiet_of (LK.out _)))
        go_wp2_with fail
        refine ⟨?_, by simp [intOf]; omega⟩
        first
          | exact ⟨q + 1, m2 + nq_1, by omega, rfl, by rw [← HWQ.out, World.drewN_drewN]⟩
          | exact ⟨q + 1, _, by omega, rfl, by rw [← HWQ.out, World.drewN_drewN]⟩
          | (repeat apply Exists.intro
             refine ⟨?_, rfl⟩
             exact ⟨q + 1, _, by omega, rfl, by rw [← HWQ.out, World.drewN_drewN]⟩)
    have hkl : (k : Int) < (K : Int) := by omega
    have hkl2 : k < K := by omega
    have hwk : IntKind.i64.wrap ((k : Int) + 1) = (k : Int) + 1 := IntWalk.i64_in _ (by omega)
    have hvl : k < vs.length := by rw [HSL.out.len]; exact hkl2
    obtain ⟨vo, hvo⟩ : ∃ vo, vs[k]? = some vo := ⟨vs[k], List.getElem?_eq_getElem _⟩
    have HVO : Hid (∀ w', wz.grownBy w' none → w'.cell? ⟨sb, k, none⟩ = some vo ∧ w'.frozen? ⟨sb, k, none⟩ = false) := fun w' hg => by
      have h := row_kept hg HSL.out.row (by simp)
      refine ⟨?_, free_of h k⟩
      rw [cell_of h]
      simpa using hvo
    clear hvo hvl
    go_upto_region 10 with (at_make; refine wpList_make_full _ rfl _ _ 38 rfl wz.heap.size 46 i0 (.float .f64 0) 1 Try.underlying38 hi hz0 hz1 _ _ _ _ mm rfl rfl rfl rfl (by rw [hz2]; omega) (by unfold maxLen; omega) (Nat.le_refl _) ?_; intro w5 hown5 hg5; have HOWN5 := Lib.hid hown5; have HG5 := Lib.hid hg5; have q0 := (HVO.out w5 hg5).1; have q1 := (HVO.out w5 hg5).2; clear hown5 hg5)
    have hrow : RowF w5 wz.heap.size (List.replicate mm 0) := by
      have h := HOWN5.out
      rw [show (madeCells (Value.float FloatKind.f64 0).cells (mm * 1)).toList = List.replicate mm (Value.float .f64 0) from by rw [Nat.mul_one]; exact madeCells_one _ _] at h
      unfold RowF
      rw [List.map_replicate]
      exact new_of_made h
    have HNX := Lib.hid (HSL.out.next HG5.out hkl2 hrow)
    have hf : Fr (fun b => b = sb) w5 (w5.setCell ⟨sb, k, none⟩ (.slice (some ⟨wz.heap.size, 0, none⟩) mm mm)) := fr_set (X := fun b => b = sb) (p := ⟨sb, k, none⟩) (Fr.refl _ _) (.inl rfl) _
    have HABN := Lib.hid (hf.row (row_kept HG5.out HAB4.out (by simp)) (fun e => by have := HSA.out; unfold Hid at this; omega))
    obtain ⟨wf, hwf⟩ : ∃ wf, w5.setCell ⟨sb, k, none⟩ (.slice (some ⟨wz.heap.size, 0, none⟩) mm mm) = wf := ⟨_, rfl⟩
    rw [hwf] at HNX HABN
    simp only [hwf]
    clear hwf hf hrow HOWN5 HG5 q0 q1 HVO
    go_wp2_with fail
    refine ⟨?_, by simp [intOf]; omega⟩
    first
      | exact ⟨k + 1, _, by omega, rfl, HNX.out, HABN.out⟩
      | (repeat apply Exists.intro
         refine ⟨?_, rfl⟩
         exact ⟨k + 1, _, by omega, rfl, HNX.out, HABN.out⟩)
end Go.Proofs.Ytdliilmnfbgplaa.GRestsL
