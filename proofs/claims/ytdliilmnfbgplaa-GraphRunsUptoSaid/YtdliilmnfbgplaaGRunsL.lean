/- A graph, piece by piece: the law's walk. -/
import Derived.Test.YtdliilmnfbgplaaGRunsP
import Derived.Test.YtdliilmnfbgplaaGRRight
import Derived.Test.YtdliilmnfbgplaaGOrderP
import Derived.Test.YtdliilmnfbgplaaGRestsL
import Derived.Deep.AppendLies
namespace Go.Proofs.Ytdliilmnfbgplaa.GRunsL
open Go Go.RowKit Go.Proofs.Ytdliilmnfbgplaa.GPiece Go.Proofs.Ytdliilmnfbgplaa.Fl Go.Proofs.Ytdliilmnfbgplaa.Fw Go.Proofs.Ytdliilmnfbgplaa.GRd Go.Proofs.Ytdliilmnfbgplaa.GCells Go.Proofs.Ytdliilmnfbgplaa.GStep Go.Proofs.Ytdliilmnfbgplaa.GMod Go.Proofs.Ytdliilmnfbgplaa.GOrd Go.Proofs.Ytdliilmnfbgplaa.GMem Go.Proofs.Ytdliilmnfbgplaa.GNode Go.Proofs.Ytdliilmnfbgplaa.GPMem Go.Proofs.Ytdliilmnfbgplaa.GPState Go.Proofs.Ytdliilmnfbgplaa.GOuts Go.Proofs.Ytdliilmnfbgplaa.GSub Go.Proofs.Ytdliilmnfbgplaa.GRun Go.Proofs.Ytdliilmnfbgplaa.GMade Go.Proofs.Ytdliilmnfbgplaa.GSort Go.Proofs.Ytdliilmnfbgplaa.GNewS Go.Proofs.Ytdliilmnfbgplaa.GNewF Go.Proofs.Ytdliilmnfbgplaa.GNew Go.Proofs.Ytdliilmnfbgplaa.GSoundS Go.Proofs.Ytdliilmnfbgplaa.GSound Go.Proofs.Ytdliilmnfbgplaa.GAlive Go.Proofs.Ytdliilmnfbgplaa.GRestsL Go.Proofs.Ytdliilmnfbgplaa.GSteps Go.Proofs.Ytdliilmnfbgplaa.GStart Go.Proofs.Ytdliilmnfbgplaa.GOrderP Go.Proofs.Ytdliilmnfbgplaa.GRLoop Go.Proofs.Ytdliilmnfbgplaa.GRWrong Go.Proofs.Ytdliilmnfbgplaa.GRRight Go.Proofs.Ytdliilmnfbgplaa.GRAllP Go.Proofs.Ytdliilmnfbgplaa.GRSamp Go.Proofs.Ytdliilmnfbgplaa.GRFullP Go.Proofs.Ytdliilmnfbgplaa.GRFull Go.Proofs.Ytdliilmnfbgplaa.GRunsP Go.Proofs.Ytdliilmnfbgplaa.Hp Go.Proofs.Ytdliilmnfbgplaa.Rd Go.Proofs.Ytdliilmnfbgplaa.Opn
set_option linter.unusedVariables false
set_option linter.unusedSimpArgs false

theorem sound_len (g : Gd) (order : List Nat) (chunk : Nat) : ∀ (ps : List Pc) (sts : List NS), (soundG g order chunk sts ps).length = ps.length
  | [], sts => rfl
  | p :: ps, sts => by simp only [soundG, List.length_cons]; rw [sound_len g order chunk ps]

/-- The search's word is the reference's. -/
theorem wrong_vis {g : Gd} (hp : preE g = 0) {b : Bool} {s : Sr} (h : Vis g (s0 g.nodes.length) (.inr (List.range g.nodes.length)) b s) : wrongE g = if b = true then 0 else 10 := by
  have h1 := vis_acy h
  cases b with
  | true => rw [wrongE_loop hp (b := false) (loopB_iff ⟨(fun e => by cases e), (fun e => absurd (h1.1 rfl) e)⟩)]; rfl
  | false => rw [wrongE_loop hp (b := true) (loopB_iff ⟨(fun _ e => by have := h1.2 e; cases this), (fun _ => rfl)⟩)]; rfl

/-- Rows that are grown, as rows that are read. -/
theorem outs_ins {w : World} {B ub n : Nat} {vs : List Value} {ls : List (List Nat)} (h : OutsR w B ub vs ls) (hn : ls.length = n) (A : Nat → Prop) (hA : ∀ b, A b) : InsR w A (.slice (some ⟨ub, 0, none⟩) n n) ls := by
  refine ⟨vs, h.len, .inl ⟨ub, 0, n, hA _, by rw [h.len, hn], fun i u hu j x hx => ?_⟩, fun i u l hu hl => ?_⟩
  · cases j with
    | zero =>
      simp [vC] at hx
      subst hx
      rw [Nat.zero_add, Nat.mul_one, Nat.add_zero, cell_of h.cell]
      simpa using hu
    | succ j => simp [vC] at hx
  · obtain ⟨ys, h1, rfl⟩ := h.val i u l hu hl
    obtain ⟨a, c, rfl⟩ := own_slice h1
    rw [List.length_map]
    refine ⟨⟨ys, sla_of_own fC_len h1 _ (fun b _ => hA b), rfl⟩, a, c, rfl, ?_⟩
    cases hy : ys.length with
    | zero => exact Nat.zero_le _
    | succ k =>
      obtain ⟨_, _, _, _, _, h3, _⟩ := own_row h1 (by omega)
      omega

/-- The rows that were joined so far. -/
def joinK (q : Nat) (a b : List (List Nat)) : List (List Nat) := joinN (a.take q) (b.take q) ++ a.drop q
theorem joinK_zero (a b : List (List Nat)) : joinK 0 a b = a := by simp [joinK, joinN]
theorem joinK_full {a b : List (List Nat)} {n : Nat} (ha : a.length = n) (hb : b.length = n) : joinK n a b = joinN a b := by
  unfold joinK
  rw [List.take_of_length_le (by omega), List.take_of_length_le (by omega), List.drop_of_length_le (by omega), List.append_nil]
theorem joinK_at {a b : List (List Nat)} (h : a.length = b.length) {q : Nat} {x : List Nat} (hx : a[q]? = some x) : (joinK q a b)[q]? = some x := by
  have hq := (List.getElem?_eq_some_iff.1 hx).1
  unfold joinK
  rw [List.getElem?_append_right (by unfold joinN; rw [List.length_zipWith, List.length_take, List.length_take]; omega), List.getElem?_drop, ← hx]
  congr 1
  unfold joinN
  rw [List.length_zipWith, List.length_take, List.length_take]
  omega
theorem joinK_next {a b : List (List Nat)} (h : a.length = b.length) {q : Nat} {x y : List Nat} (hx : a[q]? = some x) (hy : b[q]? = some y) : joinK (q + 1) a b = (joinK q a b).set q (x ++ y) := by
  have hq := (List.getElem?_eq_some_iff.1 hx).1
  have hl : (joinN (a.take q) (b.take q)).length = q := by unfold joinN; rw [List.length_zipWith, List.length_take, List.length_take]; omega
  have hd : a.drop q = x :: a.drop (q + 1) := by
    obtain ⟨h1, h2⟩ := List.getElem?_eq_some_iff.1 hx
    rw [List.drop_eq_getElem_cons h1, h2]
  have hz : joinN (a.take (q + 1)) (b.take (q + 1)) = joinN (a.take q) (b.take q) ++ [x ++ y] := by
    rw [take_next hx, take_next hy]
    unfold joinN
    rw [List.zipWith_append (by rw [List.length_take, List.length_take]; omega)]
    rfl
  unfold joinK
  rw [hz, hd, List.set_append_right _ _ (by omega), hl, Nat.sub_self, List.set_cons_zero, List.append_assoc]
  rfl

/-- 'row[a:]'. -/
theorem slice_from {w : World} {A : Nat → Prop} {ro : Option Addr} {rc : Nat} {l : List Nat} (h : CFl w A (.slice ro l.length rc) l) (hrc : l.length ≤ rc) (a : Nat) (ha : a ≤ l.length) :
    ∃ ao2, (∀ w, (Instr.sliceAt 38 (.slice ro l.length rc) (some (.int .i64 (a : Int))) none none).run Try.prog w = .ok (.slice ao2 (l.length - a) (rc - a)) w) ∧ CFl w A (.slice ao2 (l.drop a).length (rc - a)) (l.drop a) := by
  refine ⟨if rc = a then ro else ro.map (·.add (a * 1)), fun w => ?_, ?_⟩
  · rw [run_sliceAt_slice _ _ _ _ _ _ elem38, run_slice_l _ _ _ _ _ elem38 _ _ (by omega) (by omega), size_elem38]
    simp [Result.andThen, sliced]
  · obtain ⟨ys, h1, rfl⟩ := h
    rw [List.length_map] at ha hrc
    refine ⟨ys.drop a, ?_, by rw [List.map_drop]⟩
    have hl : (ys.drop a).length = ys.length - a := List.length_drop
    rw [← List.map_drop, List.length_map]
    rcases h1 with ⟨b, off, cap, hA, e, hr⟩ | ⟨ao, cap, e, rfl⟩
    · simp only [Value.slice.injEq] at e
      obtain ⟨rfl, _, rfl⟩ := e
      by_cases e2 : rc = a
      · have hn : ys.drop a = [] := List.drop_of_length_le (by omega)
        rw [hn]
        exact .inr ⟨_, _, rfl, rfl⟩
      · rw [if_neg e2]
        refine .inl ⟨b, off + a, rc - a, hA, by rw [Nat.mul_one]; simp only [Option.map_some, Addr.add_lit], fun i x hx => ?_⟩
        rw [List.getElem?_drop] at hx
        have := hr (a + i) x hx
        rw [Nat.mul_one] at this ⊢
        rw [Nat.add_assoc]
        exact this
    · exact .inr ⟨_, _, by rw [List.drop_nil]; rfl, by rw [List.drop_nil]⟩

theorem info34 : (Try.prog.info? 34).map (fun i => (i.zero, i.size, i.bytes)) = some (some (.agg #[.slice none 0 0, .int .i64 0, .bool false]), 3, 40) := by kernel_rfl

set_option maxHeartbeats 16000000 in
set_option maxRecDepth 100000 in
theorem law (g : Gd) (na oa : Option Addr) (nc oc : Nat) (pa : Option Addr) (pc : Nat) (ps : List Pc) (W : World) (hnd : NdsR W (fun b => b < W.heap.size) (.slice na g.nodes.length nc) g.nodes) (hou : SlA 1 iC W (fun b => b < W.heap.size) (.slice oa g.outs.length oc) g.outs)
    (hfl : ∀ x ∈ g.nodes, x.from_.length ≤ 1048576 ∧ x.pt.step < 4294967296) (hpc : PcsR W (fun b => b < W.heap.size) (.slice pa ps.length pc) ps) (hpl : ∀ p ∈ ps, p.ins.length ≤ 1048576) (hlen : ps.length ≤ 1048576) :
    Calls Try.prog 3 #[gdV g.ins (.slice na g.nodes.length nc) (.slice oa g.outs.length oc), .slice pa ps.length pc] W fun e w' => e = .returned (.bool true) ∧ Hid (W.grownBy w' none) := by
  obtain ⟨L, hL⟩ : ∃ L, ps.length = L := ⟨_, rfl⟩
  obtain ⟨N, hN⟩ : ∃ N, g.nodes.length = N := ⟨_, rfl⟩
  obtain ⟨M, hM⟩ : ∃ M, g.outs.length = M := ⟨_, rfl⟩
  obtain ⟨ins, hins⟩ : ∃ ins, g.ins = ins := ⟨_, rfl⟩
  have HND := Lib.hid hnd
  have HOU := Lib.hid hou
  have HFL := Lib.hid hfl
  have HPC := Lib.hid hpc
  have HPL := Lib.hid hpl
  have HGA : Hid (W.grownBy (W.alloc (.cells #[.int .i64 ins, .slice na N nc, .slice oa M oc] 25)) none) := grown_alloc (grown_refl _ _) _
  have HAB : Hid ((W.alloc (.cells #[.int .i64 ins, .slice na N nc, .slice oa M oc] 25)).heap[W.heap.size]? = some (.cells #[.int .i64 ins, .slice na N nc, .slice oa M oc] 25 (0, 0))) := heap_alloc_new _ _
  have SC1 := fun (v : World) (hv : W.grownBy v none) => sound_calls (fun b => b < W.heap.size) g na oa nc oc pa pc ps v (HND.out.fr (X := fun _ => False) (.none hv) (fun _ _ => id)) (HOU.out.grown hv) HFL.out (HPC.out.grown hv) (fun b hb => Nat.lt_of_lt_of_le hb hv.size) HPL.out (by omega)
  have WC1 := fun (v : World) (hv : W.grownBy v none) => wrong_calls (fun b => b < W.heap.size) g na oa nc oc v (HND.out.fr (X := fun _ => False) (.none hv) (fun _ _ => id)) (HOU.out.grown hv) HFL.out
  unfold gdV at SC1 WC1 ⊢
  rw [hN, hM, hins] at SC1 WC1
  rw [hN, hM, hins]
  rw [hL] at SC1 hlen ⊢
  have HSC := Lib.hid SC1
  have HWC := Lib.hid WC1
  have HN := Lib.hid hN
  have HM := Lib.hid hM
  have HI := Lib.hid hins
  have HL := Lib.hid hL
  clear hnd hou hfl hpc hpl hL hN hM hins SC1 WC1
  go_enter Try.func3, Try.ntmps3
  go_upto_region 1 with fail
  obtain ⟨wa, hwa⟩ : ∃ wa, W.alloc (.cells #[.int .i64 ins, .slice na N nc, .slice oa M oc] 25) = wa := ⟨_, rfl⟩
  obtain ⟨aB, haB⟩ : ∃ aB, W.heap.size = aB := ⟨_, rfl⟩
  rw [hwa] at HGA HAB
  rw [haB] at HAB
  simp only [hwa, haB]
  clear hwa haB
  have SCa := Lib.hid (HSC.out wa HGA.out)
  have e0 := cell_of HAB.out 0
  have e1 := cell_of HAB.out 1
  have e2 := cell_of HAB.out 2
  clear HSC
  go_upto_region 2 with (go_at_call 7; refine (SCa.out).mono ?_; rintro ez w8 ⟨hg8, H1⟩; rcases H1 with ⟨hp, rfl⟩ | ⟨hp, s, hv, rfl⟩ | ⟨hp, s, ov, hv, rfl, hhd⟩)
  · have HG8 : Hid (W.grownBy w8 none) := grown_trans HGA.out hg8.out
    have WCa := Lib.hid (HWC.out w8 HG8.out)
    have f0 := grown_cell hg8.out e0 (by simp)
    have f1 := grown_cell hg8.out e1 (by simp)
    have f2 := grown_cell hg8.out e2 (by simp)
    have HW := Lib.hid (wrongE_pre hp)
    obtain ⟨E, hE⟩ : ∃ E, preE g = E := ⟨_, rfl⟩
    have HWE : Hid (wrongE g = E) := by unfold Hid; rw [HW.out, hE]
    rw [hE] at hp
    rw [HWE.out] at WCa
    simp only [hE]
    have hb1 : (E == 0) = false := by simpa using hp
    have hb2 : (E == E) = true := by simp
    clear hE HW HWE e0 e1 e2 hg8
    go_upto_region 3 with (go_at_call 8; refine (WCa.out).mono ?_; rintro ez w9 ⟨rfl, hg9⟩)
    go_wp2_with fail
    go_ret
    exact ⟨by rfl, grown_trans HG8.out hg9.out⟩
  · have HG8 : Hid (W.grownBy w8 none) := grown_trans HGA.out hg8.out
    have WCa := Lib.hid (HWC.out w8 HG8.out)
    have f0 := grown_cell hg8.out e0 (by simp)
    have f1 := grown_cell hg8.out e1 (by simp)
    have f2 := grown_cell hg8.out e2 (by simp)
    have hw := wrong_vis hp hv.out
    rw [hw] at WCa
    simp only [Bool.false_eq_true, if_false] at WCa
    clear hw e0 e1 e2 hg8
    go_upto_region 3 with (go_at_call 8; refine (WCa.out).mono ?_; rintro ez w9 ⟨rfl, hg9⟩)
    go_wp2_with fail
    go_ret
    exact ⟨by rfl, grown_trans HG8.out hg9.out⟩
  have HG8 : Hid (W.grownBy w8 none) := grown_trans HGA.out hg8.out
  have WCa := Lib.hid (HWC.out w8 HG8.out)
  have f0 := grown_cell hg8.out e0 (by simp)
  have f1 := grown_cell hg8.out e1 (by simp)
  have f2 := grown_cell hg8.out e2 (by simp)
  have hw := wrong_vis hp hv.out
  rw [hw] at WCa
  simp only [if_true] at WCa
  have hpo := pre_ok hp
  obtain ⟨hok, hch⟩ := start_ok hp (fun x hx => (HFL.out x hx).1) hv.out
  have HOK := Lib.hid hok
  have HCH := Lib.hid hch
  have HMO := Lib.hid hpo.2.2.2.1
  have HOR := Lib.hid hpo.2.2.2.2
  have hn256 : N ≤ 256 := by rw [← HN.out]; exact hpo.1
  have hm256 : M ≤ 256 := by rw [← HM.out]; exact hpo.2.1
  have hk16 := hpo.2.2.1
  rw [HI.out] at hk16
  obtain ⟨KI, hKI⟩ : ∃ KI : Nat, ins = (KI : Int) := Int.eq_ofNat_of_zero_le hk16.1
  subst hKI
  have hki : KI ≤ 16 := by omega
  obtain ⟨RS, hRS⟩ : ∃ RS, soundG g s.order (chunkK g.nodes) (g.nodes.map GMod.start) ps = RS := ⟨_, rfl⟩
  have hRSL : RS.length = L := by rw [← hRS, sound_len, HL.out]
  rw [hRS] at hhd
  obtain ⟨ao, c, rfl⟩ := hds_open hhd.out
  have hhd2 := hhd.out
  rw [hRSL] at hhd2 ⊢
  have HHD := Lib.hid hhd2
  have HRS := Lib.hid hRS
  have HRSL := Lib.hid hRSL
  have HTP := Lib.hid (topo_of hok.ord (fun x hx => (made_ok (HMO.out x hx)).2.2.1))
  have HAB8 := Lib.hid (row_kept hg8.out HAB.out (by simp))
  obtain ⟨j0, hj, hz0, hz1, hz2⟩ := info_parts info38
  obtain ⟨j46, hj46, hf0, hf1, hf2⟩ := info_parts GMem.info46
  clear hw hpo hok hch hhd hhd2 hRS hRSL hv hp hk16 e0 e1 e2 hg8
  go_upto_region 3 with (go_at_call 8; refine (WCa.out).mono ?_; rintro ez w9 ⟨rfl, hg9⟩)
  have HG9 : Hid (W.grownBy w9 none) := grown_trans HG8.out hg9.out
  have HAB9 := Lib.hid (row_kept hg9.out HAB8.out (by simp))
  have HHD9 := Lib.hid (HdsR.grown HHD.out hg9.out)
  clear WCa HHD hg9 f0 f1 f2 HAB8 HAB
  have f0 := cell_of HAB9.out 0
  have hki0 : (0 : Int) ≤ (KI : Int) := by omega
  go_upto_region 8 with (first | (at_make; refine wpList_make_full _ rfl _ _ 32 rfl w9.heap.size 38 j0 (.slice none 0 0) 1 Try.underlying32 hj hz0 hz1 _ _ _ _ KI rfl rfl rfl rfl (by rw [hz2]; omega) (by unfold maxLen; omega) (Nat.le_refl _) ?_; intro w3 hown3 hg3; have HOWN3 := Lib.hid hown3; have HG3 := Lib.hid hg3; clear hown3 hg3))
  have HO0 : Hid (OutsR w3 w9.heap.size w9.heap.size (List.replicate KI (.slice none 0 0)) (List.replicate KI [])) := by
    refine outs0 ?_
    have h := HOWN3.out
    rw [show (madeCells (Value.slice none 0 0).cells (KI * 1)).toList = List.replicate KI (Value.slice none 0 0) from by rw [Nat.mul_one]; exact madeCells_one _ _] at h
    exact new_of_made h
  obtain ⟨ub0, hub0⟩ : ∃ ub0, w9.heap.size = ub0 := ⟨_, rfl⟩
  have HUB : Hid (w9.heap.size = ub0) := hub0
  rw [hub0] at HO0
  simp only [hub0]
  clear hub0 HOWN3 f0
  go_upto_region 10 with fail
  go_loopw [8, 9, 10, 11, 12, 13, 14, 15, 16, 49] (fun v8 v9 v10 v11 v12 v13 v14 v15 v16 v49 wr => ∃ (i ub : Nat) (vs : List Value) (insL : List (List Nat)) (nn : Nat) (sts : List NS), i ≤ L ∧ v49 = .int .i64 (i : Int) ∧ v8 = .slice (some ⟨ub, 0, none⟩) KI KI ∧ v9 = .int .i64 (nn : Int) ∧ Hid (OutsR wr ub ub vs insL) ∧ Hid (RunI g s.order sts insL nn) ∧ Hid (RS.drop i = soundG g s.order (chunkK g.nodes) sts (ps.drop i)) ∧ nn ≤ i * 65536 ∧ Hid (w9.heap.size ≤ ub) ∧ Hid (w9.grownBy wr none)) (fun _ _ _ _ _ _ _ _ _ v49 _ => L - (intOf v49).toNat)
  case atStart => exact ⟨0, ub0, _, _, 0, _, Nat.zero_le _, rfl, rfl, rfl, HO0.out, RunI.zero HI.out.symm, HRS.out.symm, Nat.zero_le _, Nat.le_of_eq HUB.out, HG3.out⟩
  case round =>
    obtain ⟨i, ub, vs, insL, nn, sts, hi, rfl, rfl, rfl, HOUT, HRI, HDR, hnn, HUL, HGR⟩ := hrel
    obtain ⟨wz, hwz⟩ : ∃ wz : World, wz = wr := ⟨_, rfl⟩
    subst hwz
    clear HO0 HG3
    by_cases hiL : i = L
    · have h2 := hiL.symm
      subst h2
      clear hiL
      go_wp2_with fail
      go_ret
      exact ⟨rfl, grown_trans HG9.out HGR.out⟩
    have hil : (i : Int) < (L : Int) := by omega
    have hil2 : i < L := by omega
    have hwi : IntKind.i64.wrap ((i : Int) + 1) = (i : Int) + 1 := IntWalk.i64_in _ (by omega)
    obtain ⟨p, hp⟩ : ∃ p, ps[i]? = some p := ⟨ps[i]'(by rw [HL.out]; exact hil2), List.getElem?_eq_getElem _⟩
    obtain ⟨b3, o3, ia, ic, hpa, _, hrg, hins⟩ := pcs_at HPC.out hp
    have hpl := HPL.out p (List.mem_of_getElem? hp)
    have hGW : W.grownBy wz none := grown_trans HG9.out HGR.out
    have hdr : RS.drop i = (runG g s.order (chunkK g.nodes) (if p.rest = true then sts.map restN else sts) p.ins p.n).1 :: soundG g s.order (chunkK g.nodes) (runG g s.order (chunkK g.nodes) (if p.rest = true then sts.map restN else sts) p.ins p.n).2 (ps.drop (i + 1)) := by
      obtain ⟨h1, h2⟩ := List.getElem?_eq_some_iff.1 hp
      rw [HDR.out, List.drop_eq_getElem_cons h1, h2]
      rfl
    obtain ⟨r, hr⟩ : ∃ r, RS[i]? = some r := ⟨RS[i]'(by rw [HRSL.out]; exact hil2), List.getElem?_eq_getElem _⟩
    have hcons : RS.drop i = r :: RS.drop (i + 1) := by
      obtain ⟨h1, h2⟩ := List.getElem?_eq_some_iff.1 hr
      rw [List.drop_eq_getElem_cons h1, h2]
    rw [hcons] at hdr
    simp only [List.cons.injEq] at hdr
    obtain ⟨hrE, hdr2⟩ := hdr
    have HDR2 := Lib.hid hdr2
    have HRE := Lib.hid hrE
    obtain ⟨b5, o5, oa5, oc5, hb5, g0, g1, hcl5⟩ := hds_at (HdsR.grown HHD9.out HGR.out) hr
    subst hb5
    obtain ⟨pins, n, rest⟩ := p
    dsimp only at hpl hins HDR2 HRE hrg
    obtain ⟨K, hK⟩ : ∃ K, pins.length = K := ⟨_, rfl⟩
    rw [hK] at hrg hins hpl
    have HK := Lib.hid hK
    have d0 := grown_cell hGW (hrg 0 _ rfl) (by simp)
    have d1 := grown_cell hGW (hrg 1 _ rfl) (by simp)
    have d2 := grown_cell hGW (hrg 2 _ rfl) (by simp)
    rw [Nat.add_zero] at d0
    subst hpa
    have HIN := Lib.hid hins
    have HGW := Lib.hid hGW
    have HCL5 := Lib.hid hcl5
    have HR := Lib.hid hr
    clear hp hrg hins hGW hcons hrE hdr2 hcl5 hK hr HDR
    go_upto_region 12 with fail
    have hgj : wz.grownBy (wz.alloc (.cells #[.slice ia K ic, .int .i64 n, .bool rest] 34)) none := grown_alloc (grown_refl _ _) _
    have hxrow := heap_alloc_new wz (.cells #[.slice ia K ic, .int .i64 n, .bool rest] 34)
    obtain ⟨wj, hwj⟩ : ∃ wj, wz.alloc (.cells #[.slice ia K ic, .int .i64 n, .bool rest] 34) = wj := ⟨_, rfl⟩
    rw [hwj] at hxrow hgj
    obtain ⟨xB, hxB⟩ : ∃ xB, wz.heap.size = xB := ⟨_, rfl⟩
    rw [hxB] at hxrow
    simp only [hwj, hxB]
    have HXR := Lib.hid hxrow
    have HGJ := Lib.hid hgj
    have HOUJ := Lib.hid (HOUT.out.grown hgj)
    have HUX : Hid (ub ≠ xB) := by
      have h := lt_of HOUT.out.cell
      unfold Hid
      omega
    have HXG : Hid (w9.heap.size ≤ xB) := by
      have h := HGR.out.size
      unfold Hid
      omega
    have HG9J : Hid (w9.grownBy wj none) := grown_trans HGR.out hgj
    have x2 := cell_of HXR.out 2
    clear hxrow hgj hwj hxB d0 d1 d2 HOUT g0 g1
    have e0 := grown_cell HG9J.out (cell_of HAB9.out 0) (by simp)
    obtain ⟨sts2, hsts2⟩ : ∃ sts2, (if rest = true then sts.map restN else sts) = sts2 := ⟨_, rfl⟩
    rw [hsts2] at HRE HDR2
    go_upto_if 55 with fail
    go_cut [8, 9] from 50 to 145 (fun v8 v9 wx => ∃ (ub2 : Nat) (vs2 : List Value) (insL2 : List (List Nat)) (nn2 : Nat), v8 = .slice (some ⟨ub2, 0, none⟩) KI KI ∧ v9 = .int .i64 (nn2 : Int) ∧ Hid (OutsR wx ub2 ub2 vs2 insL2) ∧ Hid (RunI g s.order sts2 insL2 nn2) ∧ nn2 ≤ i * 65536 ∧ Hid (w9.heap.size ≤ ub2 ∧ ub2 ≠ xB) ∧ Hid (wj.grownBy wx none))
    case first =>
      cases rest with
      | false =>
        have HRI2 : Hid (RunI g s.order sts2 insL nn) := by rw [← hsts2]; exact HRI.out
        clear hsts2
        go_wp2_with fail
        go_meet
        exact ⟨ub, vs, insL, nn, rfl, rfl, HOUJ.out, HRI2.out, hnn, ⟨HUL.out, HUX.out⟩, grown_refl _ _⟩
      | true =>
        have HRI2 : Hid (RunI g s.order sts2 (List.replicate KI []) 0) := by rw [← hsts2]; exact HRI.out.again HI.out.symm
        clear hsts2
        go_wp2_with (first | (at_make; refine wpList_make_full _ rfl _ _ 32 rfl wj.heap.size 38 j0 (.slice none 0 0) 1 Try.underlying32 hj hz0 hz1 _ _ _ _ KI rfl rfl rfl rfl (by rw [hz2]; omega) (by unfold maxLen; omega) (Nat.le_refl _) ?_; intro w3 hown3 hg3; have HOWN3 := Lib.hid hown3; have HG3 := Lib.hid hg3; clear hown3 hg3))
        go_meet
        have HO3 : OutsR w3 wj.heap.size wj.heap.size (List.replicate KI (.slice none 0 0)) (List.replicate KI []) := by
          refine outs0 ?_
          have h := HOWN3.out
          rw [show (madeCells (Value.slice none 0 0).cells (KI * 1)).toList = List.replicate KI (Value.slice none 0 0) from by rw [Nat.mul_one]; exact madeCells_one _ _] at h
          exact new_of_made h
        exact ⟨wj.heap.size, _, _, 0, rfl, rfl, HO3, HRI2.out, Nat.zero_le _, ⟨HG9J.out.size, fun e => by have h := lt_of HXR.out; omega⟩, HG3.out⟩
    obtain ⟨ub2, vs2, insL2, nn2, rfl, rfl, HO2, HRI2, hnn2, HU2, HGC⟩ := hcut
    obtain ⟨wd, hwd⟩ : ∃ wd : World, wd = wc := ⟨_, rfl⟩
    subst hwd
    have HG9D : Hid (w9.grownBy wd none) := grown_trans HG9J.out HGC.out
    have HGWD : Hid (W.grownBy wd none) := grown_trans HG9.out HG9D.out
    have HXRD := Lib.hid (row_kept HGC.out HXR.out (by simp))
    clear e0 x2 hsts2 HOUJ HUX HUL HRI hnn HGR HGJ HXR HG9J HGW HGC HCL5
    have e0 := grown_cell HG9D.out (cell_of HAB9.out 0) (by simp)
    have e1 := grown_cell HG9D.out (cell_of HAB9.out 1) (by simp)
    have e2 := grown_cell HG9D.out (cell_of HAB9.out 2) (by simp)
    have x0 := cell_of HXRD.out 0
    have x1 := cell_of HXRD.out 1
    have x2 := cell_of HXRD.out 2
    have RCx := right_calls (fun b => b < W.heap.size) g na oa N nc M oc ia ic pins n rest wd (by rw [HK.out]; exact InsR.grown HIN.out HGWD.out) (by rw [HK.out]; omega)
    unfold gdV at RCx
    rw [HI.out, HK.out] at RCx
    obtain ⟨E, hE⟩ : ∃ E, rightE g pins n = E := ⟨_, rfl⟩
    rw [hE] at RCx
    have HE := Lib.hid hE
    have HRCx := Lib.hid RCx
    clear RCx hE
    go_upto_region 15 with (go_at_call 9; refine (HRCx.out).mono ?_; rintro ez w5 ⟨rfl, hg5⟩)
    have HG95 : Hid (w9.grownBy w5 none) := grown_trans HG9D.out hg5.out
    have HO5 := Lib.hid (HO2.out.grown hg5.out)
    have HXR5 := Lib.hid (row_kept hg5.out HXRD.out (by simp))
    clear e0 e1 e2 x0 x1 x2 HRCx hg5 HO2 HXRD HG9D HGWD
    obtain ⟨b5', o5', oa6, oc6, hb5, g0, g1, hcl6⟩ := hds_at (HdsR.grown HHD9.out HG95.out) HR.out
    simp only [Option.some.injEq, Addr.mk.injEq, and_true] at hb5
    obtain ⟨rfl, rfl⟩ := hb5
    have HCL6 := Lib.hid hcl6
    clear hcl6
    by_cases hE0 : E = 0
    case neg =>
      have hrb := HRI2.out.bad (chunk := chunkK g.nodes) (pins := pins) (n := n) (by rw [HE.out]; exact hE0)
      have hr1 : r.1 = [] := by rw [HRE.out, hrb]
      have hr2 : r.2 = E := by rw [HRE.out, hrb]; exact HE.out
      have HDR3 : Hid (RS.drop (i + 1) = soundG g s.order (chunkK g.nodes) sts2 (ps.drop (i + 1))) := by
        have h := HDR2.out
        rw [hrb] at h
        exact h
      rw [hr1] at g0
      rw [hr2] at g1
      have hEb : (E == 0) = false := by simpa using hE0
      have hEE : (E == E) = true := by simp
      have hn3 : nn2 ≤ (i + 1) * 65536 := Nat.le_trans hnn2 (Nat.mul_le_mul_right _ (Nat.le_succ i))
      clear hrb hr1 hr2
      go_wp2_with fail
      refine ⟨?_, by simp [intOf]; omega⟩
      first
        | exact ⟨i + 1, ub2, vs2, insL2, nn2, sts2, by omega, rfl, rfl, rfl, HO5.out, HRI2.out, HDR3.out, hn3, HU2.out.1, HG95.out⟩
        | (repeat apply Exists.intro
           refine ⟨?_, rfl⟩
           exact ⟨i + 1, ub2, vs2, insL2, nn2, sts2, by omega, rfl, rfl, rfl, HO5.out, HRI2.out, HDR3.out, hn3, HU2.out.1, HG95.out⟩)
    subst hE0
    obtain ⟨m, rfl, hm6, hil3, hpr⟩ := right_ok HE.out
    have hKK : K = KI := by
      have h1 := HI.out
      rw [HK.out, h1] at hil3
      omega
    subst hKK
    have HPR := Lib.hid hpr
    obtain ⟨hrn1, hrn2⟩ := HRI2.out.next HCH.out HOK.out HE.out
    have HRN := Lib.hid hrn1
    have HRR : Hid (r = (g.outs.map fun k : Int => ((allN g s.order (nn2 + m) (joinN insL2 pins)).getD k.toNat []).drop nn2, 0)) := by unfold Hid; rw [HRE.out, hrn2]
    have hr2 : r.2 = 0 := by rw [HRR.out]
    have hr1 : r.1.length = M := by rw [HRR.out, List.length_map, HM.out]
    rw [hr2] at g1
    rw [hr1] at g0 HCL6
    have HIL2 : Hid (insL2.length = K) := by
      have h := HRI2.out.il
      rw [HI.out] at h
      unfold Hid
      omega
    have HROW2 := Lib.hid HRI2.out.row
    clear hrn1 hrn2 hr2 hr1 hpr hil3
    go_upto_region 21 with fail
    clear g0 g1
    go_loopw [13, 80] (fun v13 v80 wr => ∃ (q : Nat) (vs : List Value), q ≤ K ∧ v80 = .int .i64 (q : Int) ∧ Hid (OutsR wr ub2 ub2 vs (joinK q insL2 pins)) ∧ Hid (wr.heap[xB]? = some (.cells #[.slice ia K ic, .int .i64 (m : Int), .bool rest] 34 (0, 0))) ∧ Hid (w9.grownBy wr none)) (fun _ v80 _ => K - (intOf v80).toNat)
    case atStart => exact ⟨0, vs2, Nat.zero_le _, rfl, by unfold Hid; rw [joinK_zero]; exact HO5.out, HXR5.out, HG95.out⟩
    case round =>
      clear HO5 HXR5 HG95 HCL6
      obtain ⟨q, vs3, hq, rfl, HO3, HXR3, HG93⟩ := hrel
      obtain ⟨wv, hwv⟩ : ∃ wv : World, wv = wr := ⟨_, rfl⟩
      subst hwv
      by_cases hqK : q = K
      · have h9 := hqK.symm
        subst h9
        clear hqK
        obtain ⟨T, hT⟩ : ∃ T, nn2 + m = T := ⟨_, rfl⟩
        have hwT : IntKind.i64.wrap ((nn2 : Int) + (m : Int)) = (T : Int) := by rw [IntWalk.i64_in _ (by omega)]; omega
        have hTn : T ≤ (i + 1) * 65536 := by
          rw [← hT, Nat.add_mul, Nat.one_mul]
          exact Nat.add_le_add hnn2 hm6
        have hT2 : nn2 ≤ T := by omega
        have hTb : T ≤ 1099511627776 := by omega
        have hOF := HO3.out
        rw [joinK_full HIL2.out HK.out] at hOF
        obtain ⟨JJ, hJJ⟩ : ∃ JJ, joinN insL2 pins = JJ := ⟨_, rfl⟩
        rw [hJJ] at hOF
        have HOF := Lib.hid hOF
        have hjl : JJ.length = K := by rw [← hJJ, join_len (by rw [HIL2.out, HK.out])]; exact HIL2.out
        have hjr : ∀ l ∈ JJ, l.length = T := by rw [← hJJ, ← hT]; exact join_rows HROW2.out HPR.out
        have hrr := HRR.out
        have hrn := HRN.out
        rw [hJJ, hT] at hrr hrn
        obtain ⟨P, hP⟩ : ∃ P, allN g s.order T JJ = P := ⟨_, rfl⟩
        obtain ⟨hf1, hf2, hf3⟩ := all_fix HOK.out HMO.out hjr (by rw [hjl]; exact HI.out.symm)
        rw [hP] at hf1 hf2 hf3 hrr
        have HPL2 := Lib.hid hf1
        have HPR2 := Lib.hid hf2
        have HRR2 := Lib.hid hrr
        have HRN2 := Lib.hid hrn
        have ALLC := all_calls (fun _ => True) g na oa (some ⟨ub2, 0, none⟩) nc oc K JJ T P ((List.range g.nodes.length).filter (isD g) ++ s.order) wv ((HND.out.fr (X := fun _ => False) (.none (grown_trans HG9.out HG93.out)) (fun _ _ => id)).mono (fun _ _ => trivial)) (by rw [HN.out]; exact hn256) HMO.out HFL.out (by rw [hjl]; exact outs_ins hOF hjl _ (fun _ => trivial)) (by rw [hjl]; exact HI.out.symm) hjr hTb HTP.out hf1 hf2 hf3
        unfold gdV at ALLC
        rw [HN.out, HM.out, HI.out, hjl] at ALLC
        have HALL := Lib.hid ALLC
        have hGWV : Hid (W.grownBy wv none) := grown_trans HG9.out HG93.out
        have e0 := grown_cell HG93.out (cell_of HAB9.out 0) (by simp)
        have e1 := grown_cell HG93.out (cell_of HAB9.out 1) (by simp)
        have e2 := grown_cell HG93.out (cell_of HAB9.out 2) (by simp)
        have x0 := cell_of HXR3.out 0
        have x1 := cell_of HXR3.out 1
        clear ALLC hf1 hf2 hf3 hrr hrn hjr hjl hOF hJJ hP hT
        go_upto_region 26 with (go_at_call 10; refine (HALL.out).mono ?_; rintro ez w6 ⟨ubA, vsA, rfl, hoA, huA, hg6⟩)
        have HG96 : Hid (w9.grownBy w6 none) := grown_trans HG93.out hg6.out
        have HOA := hoA
        have HOF6 := Lib.hid (HOF.out.grown hg6.out)
        have HXR6 := Lib.hid (row_kept hg6.out HXR3.out (by simp))
        have f2 := grown_cell hg6.out e2 (by simp)
        have y1 := cell_of HXR6.out 1
        obtain ⟨b9, o9, oa7, oc7, hb9, g0, g1, hcl7⟩ := hds_at (HdsR.grown HHD9.out HG96.out) HR.out
        simp only [Option.some.injEq, Addr.mk.injEq, and_true] at hb9
        obtain ⟨rfl, rfl⟩ := hb9
        have hr1 : r.1.length = M := by rw [HRR2.out, List.length_map, HM.out]
        rw [hr1] at g0 hcl7
        have HCL7 := Lib.hid hcl7
        clear e0 e1 e2 x0 x1 hoA hg6 g1 hcl7 hr1 HXR3 HG93 HO3 HALL
        go_quiet (fail)
        obtain ⟨wg, hwg⟩ : ∃ wg, w6.drewN nq = wg := ⟨_, rfl⟩
        have HG6G : Hid (w6.grownBy wg none) := by unfold Hid; rw [← hwg]; exact grown_drewN (grown_refl _ _) nq
        simp only [hwg]
        clear hwg
        replace f2 := grown_cell HG6G.out f2 (by simp)
        replace g0 := grown_cell HG6G.out g0 (by simp)
        replace y1 := grown_cell HG6G.out y1 (by simp)
        go_upto_region 29 with fail
        go_loopw [15, 16, 119] (fun v15 v16 v119 wr => ∃ q m2 : Nat, q ≤ M ∧ v119 = .int .i64 (q : Int) ∧ wr = wg.drewN m2) (fun _ _ v119 _ => M - (intOf v119).toNat)
        case atStart => exact ⟨0, 0, Nat.zero_le _, rfl, rfl⟩
        case round =>
          obtain ⟨q, m2, hq, rfl, hwr⟩ := hrel
          obtain ⟨wq, hwq⟩ : ∃ wq, wg.drewN m2 = wq := ⟨_, rfl⟩
          rw [hwq] at hwr
          have HWQ := Lib.hid hwq
          subst hwr
          have HGQ : Hid (w6.grownBy wr none) := grown_trans HG6G.out (by rw [← hwq]; exact grown_drewN (grown_refl _ _) m2)
          have HGGQ : Hid (wg.grownBy wr none) := by unfold Hid; rw [← hwq]; exact grown_drewN (grown_refl _ _) m2
          clear hwq
          by_cases hqM : q = M
          · have hn3 : T ≤ (i + 1) * 65536 := hTn
            have HOE : Hid (OutsR wr ub2 ub2 vs3 JJ) := HOF6.out.grown HGQ.out
            have HGE : Hid (w9.grownBy wr none) := grown_trans HG96.out HGQ.out
            have z1 := grown_cell HGGQ.out y1 (by simp)
            have h9 := hqM.symm
            subst h9
            clear hqM f2 g0 y1
            go_wp2_with fail
            refine ⟨?_, by simp [intOf]; omega⟩
            first
              | exact ⟨i + 1, ub2, vs3, JJ, T, _, by omega, rfl, rfl, rfl, HOE.out, HRN2.out, HDR2.out, hn3, HU2.out.1, HGE.out⟩
              | (repeat apply Exists.intro
                 refine ⟨?_, rfl⟩
                 exact ⟨i + 1, ub2, vs3, JJ, T, _, by omega, rfl, rfl, rfl, HOE.out, HRN2.out, HDR2.out, hn3, HU2.out.1, HGE.out⟩)
          have hql : (q : Int) < (M : Int) := by omega
          have hql2 : q < M := by omega
          have hwq1 : IntKind.i64.wrap ((q : Int) + 1) = (q : Int) + 1 := IntWalk.i64_in _ (by omega)
          obtain ⟨oz, hoz⟩ : ∃ oz, g.outs[q]? = some oz := ⟨g.outs[q]'(by rw [HM.out]; exact hql2), List.getElem?_eq_getElem _⟩
          have hor := HOR.out oz (List.mem_of_getElem? hoz)
          obtain ⟨on, rfl⟩ : ∃ on : Nat, oz = (on : Int) := Int.eq_ofNat_of_zero_le hor.1
          have honN : on < N := by have h := hor.2; rw [HN.out] at h; omega
          have honi : (on : Int) < (N : Int) := by omega
          obtain ⟨b7, o7, rfl, _, hocell⟩ := sla_at HOU.out hoz
          have u1 := grown_cell (grown_trans HG9.out (grown_trans HG96.out HGQ.out)) (hocell 0 _ rfl) (by simp)
          rw [Nat.mul_one, Nat.add_zero] at u1
          obtain ⟨lp, hlp⟩ : ∃ lp, P[on]? = some lp := ⟨P[on]'(by rw [HPL2.out, HN.out]; exact honN), List.getElem?_eq_getElem _⟩
          have hlpl := HPR2.out lp (List.mem_of_getElem? hlp)
          have hlr : r.1[q]? = some (lp.drop nn2) := by
            rw [HRR2.out]
            dsimp only
            rw [List.getElem?_map, hoz]
            simp only [Option.map_some, Int.toNat_natCast]
            rw [List.getD_eq_getElem?_getD, hlp]
            rfl
          obtain ⟨bA, oA, raA, rcA, hA1, _, e5, hcap, hcfA⟩ := ins_at (outs_ins (HOA.out.grown HGQ.out) (by rw [HPL2.out, HN.out]) (fun _ => True) (fun _ => trivial)) hlp
          simp only [Option.some.injEq, Addr.mk.injEq, and_true] at hA1
          obtain ⟨rfl, rfl⟩ := hA1
          rw [Nat.zero_add] at e5
          obtain ⟨ao2, hsl, hcf2⟩ := slice_from hcfA hcap nn2 (by omega)
          obtain ⟨b8, o8, ro8, rc8, rfl, _, e8, hcf8⟩ := cll_at (HCL7.out.grown HGQ.out) hlr
          have hdl : (lp.drop nn2).length = T - nn2 := by rw [List.length_drop, hlpl]
          rw [hlpl] at e5 hsl
          rw [hdl] at e8
          obtain ⟨LQ, hLQ⟩ : ∃ LQ, T - nn2 = LQ := ⟨_, rfl⟩
          obtain ⟨CQ, hCQ⟩ : ∃ CQ, rcA - nn2 = CQ := ⟨_, rfl⟩
          rw [hLQ, hCQ] at hsl
          rw [hLQ] at e8 hdl
          rw [hCQ] at hcf2
          have LK : Hid (∀ k : Nat, Calls Try.prog 11 #[.slice ro8 LQ rc8, .slice ao2 LQ CQ] (wr.drewN k) fun e w' => e = .returned (.bool true) ∧ ∃ m, w' = (wr.drewN k).drewN m) := fun k => by
            have h := like_same _ _ ro8 ao2 rc8 CQ (lp.drop nn2) (wr.drewN k) (by rw [hdl]; omega) (hcf8.grown (grown_drewN (grown_refl _ _) k)) (hcf2.grown (grown_drewN (grown_refl _ _) k))
            rw [hdl] at h
            exact h
          have HSL := Lib.hid hsl
          have z0 := grown_cell HGGQ.out g0 (by simp)
          have zc : (nn2 : Int) ≤ (T : Int) := by omega
          clear hoz hor hocell hlp hlpl hlr hcap hcfA hcf2 hcf8 hdl hLQ hCQ f2 g0 y1
          go_upto_region 31 with fail
          go_quiet ((go_at_call 11; exact Calls.quiet_of (LK.out _)))
          go_wp2_with fail
          refine ⟨?_, by simp [intOf]; omega⟩
          first
            | exact ⟨q + 1, _, by omega, rfl, by rw [← HWQ.out, World.drewN_drewN]⟩
            | (repeat apply Exists.intro
               refine ⟨?_, rfl⟩
               exact ⟨q + 1, _, by omega, rfl, by rw [← HWQ.out, World.drewN_drewN]⟩)
      --F<
      have hql : (q : Int) < (K : Int) := by omega
      have hql2 : q < K := by omega
      have hwq : IntKind.i64.wrap ((q : Int) + 1) = (q : Int) + 1 := IntWalk.i64_in _ (by omega)
      obtain ⟨la, hla⟩ : ∃ la, insL2[q]? = some la := ⟨insL2[q]'(by rw [HIL2.out]; exact hql2), List.getElem?_eq_getElem _⟩
      obtain ⟨lb, hlb⟩ : ∃ lb, pins[q]? = some lb := ⟨pins[q]'(by rw [HK.out]; exact hql2), List.getElem?_eq_getElem _⟩
      have hlla := HROW2.out la (List.mem_of_getElem? hla)
      have hllb := HPR.out lb (List.mem_of_getElem? hlb)
      have hjl : insL2.length = pins.length := by rw [HIL2.out, HK.out]
      have hja := joinK_at hjl hla
      have HJN := Lib.hid (joinK_next hjl hla hlb)
      have hqv : q < vs3.length := by rw [HO3.out.len]; exact (List.getElem?_eq_some_iff.1 hja).1
      obtain ⟨v3, hv3⟩ : ∃ v3, vs3[q]? = some v3 := ⟨vs3[q]'hqv, List.getElem?_eq_getElem _⟩
      obtain ⟨ys3, hown3, hmap3⟩ := HO3.out.val q v3 la hv3 hja
      have hys3 : ys3.length = nn2 := by rw [← hlla, ← hmap3, List.length_map]
      rw [hys3] at hown3
      obtain ⟨a3, c3, rfl⟩ := own_slice hown3
      have u3 : wv.cell? ⟨ub2, q, none⟩ = some (.slice a3 nn2 c3) := by rw [cell_of HO3.out.cell]; simpa using hv3
      obtain ⟨b7, o7, ro, rc, hia, hb7, e7, _, hc7⟩ := ins_at (InsR.grown HIN.out (grown_trans HG9.out HG93.out)) hlb
      subst hia
      rw [hllb] at e7 hc7
      obtain ⟨ys6, hs6, hm6'⟩ := hc7
      have hys6 : ys6.length = m := by rw [← hllb, ← hm6', List.length_map]
      have hx0 := cell_of HXR3.out 0
      have HOWN3 := Lib.hid hown3
      have HV3 := Lib.hid hv3
      have HJA := Lib.hid hja
      have HMAP3 := Lib.hid hmap3
      have HYS3 := Lib.hid hys3
      have HYS6 := Lib.hid hys6
      have HM6 := Lib.hid hm6'
      have HS6 := Lib.hid hs6
      have HS3 : Hid (SlA 1 fC wv AnyB (.slice a3 nn2 c3) ys3) := sla_of_own fC_len (xs := ys3) (by rw [hys3]; exact hown3) _ (fun _ _ => trivial)
      have HQV := Lib.hid hqv
      have hnB : (nn2 + m) * 8 ≤ 140737488355328 := by omega
      clear hla hlb hlla hllb hjl hja hqv hv3 hown3 hmap3 hys3 hm6' hs6 hys6
      have u3a : ∀ o, (wv.alloc o).cell? ⟨ub2, q, none⟩ = some (.slice a3 nn2 c3) := fun o => grown_cell (grown_alloc (grown_refl wv none) o) u3 (by simp)
      have u3b : ∀ o, (wv.drew.alloc o).cell? ⟨ub2, q, none⟩ = some (.slice a3 nn2 c3) := fun o => grown_cell (grown_alloc (grown_drew (grown_refl wv none)) o) u3 (by simp)
      have x0a : ∀ o, (wv.alloc o).cell? ⟨xB, 0, none⟩ = some (.slice (some ⟨b7, o7, none⟩) K ic) := fun o => grown_cell (grown_alloc (grown_refl wv none) o) hx0 (by simp)
      have x0b : ∀ o, (wv.drew.alloc o).cell? ⟨xB, 0, none⟩ = some (.slice (some ⟨b7, o7, none⟩) K ic) := fun o => grown_cell (grown_alloc (grown_drew (grown_refl wv none)) o) hx0 (by simp)
      have e7a : ∀ o, (wv.alloc o).cell? ⟨b7, o7 + q, none⟩ = some (.slice ro m rc) := fun o => grown_cell (grown_alloc (grown_refl wv none) o) e7 (by simp)
      have e7b : ∀ o, (wv.drew.alloc o).cell? ⟨b7, o7 + q, none⟩ = some (.slice ro m rc) := fun o => grown_cell (grown_alloc (grown_drew (grown_refl wv none)) o) e7 (by simp)
      go_upto_region 23 with fail
      go_region_law (first
        | (refine step_append_emp rfl (.tmp 85) (.tmp 89) 38 rfl wv.heap.size 46 j46 (.float .f64 0) 1 8 Try.underlying38 hj46 hf0 hf1 hf2 rfl (by decide) wv.heap.size rfl (by first | exact heap_alloc_new wv.drew _ | exact heap_alloc_new wv _) (Nat.le_refl _) a3 nn2 c3 (flC fC ys3) rfl (by rw [flC_len fC_len, HYS3.out]) (news_sl fC_len (by decide) (SlA.grown HS3.out (by repeat (first | exact grown_refl _ _ | exact grown_alloc (grown_refl _ _) _ | refine grown_alloc ?_ _ | refine grown_drew ?_)))) (fun u hu => by rw [flC_f, List.mem_map] at hu; obtain ⟨_, _, rfl⟩ := hu; rfl) (by unfold maxLen; omega) (by omega) (by simp) ?_; intro oa7 oc7 w7 ho7 hg7; have HO7 := Lib.hid ho7; have HG7 : Hid (wv.grownBy w7 none) := grown_new2 (by repeat (first | exact grown_refl _ _ | exact grown_alloc (grown_refl _ _) _ | refine grown_alloc ?_ _ | refine grown_drew ?_)) hg7 (Nat.le_refl _); have x0c := grown_cell HG7.out hx0 (by simp); have e7c := grown_cell HG7.out e7 (by simp); clear ho7 hg7)
        | (refine step_append_in rfl (.tmp 90) (.tmp 95) 38 rfl wv.heap.size 46 j46 (.float .f64 0) 1 8 Try.underlying38 hj46 hf0 hf1 hf2 rfl (by decide) (.slice oa7 nn2 oc7) nn2 (flC fC ys3) rfl HO7.out ro m rc (flC fC ys6) rfl (by rw [flC_len fC_len, HYS6.out]) (news_sl fC_len (by decide) (SlA.grown HS6.out HG7.out)) (fun u hu => by rw [flC_f, List.mem_map] at hu; obtain ⟨_, _, rfl⟩ := hu; rfl) (by unfold maxLen; omega) hnB HG7.out.size ?_; intro oa8 oc8 w8x ho8 hg8 hb8; have HO8 := Lib.hid ho8; have HG8X : Hid (wv.grownBy w8x none) := grown_own HG7.out HO7.out (Nat.le_refl _) hg8; have HRW8 := Lib.hid (row_kept HG8X.out HO3.out.cell (by simp)); have t0 := grown_cell HG8X.out u3 (by simp); have tf := free_of HRW8.out q; clear ho8 hg8 hb8))
      all_goals
        have HNX : Hid (OutsR (w8x.setCell ⟨ub2, q, none⟩ (.slice oa8 (nn2 + m) oc8)) ub2 ub2 (vs3.set q (.slice oa8 (nn2 + m) oc8)) (joinK (q + 1) insL2 pins)) := by
          have hbs : ∀ b, (Value.slice oa8 (nn2 + m) oc8).ownBlock = some b → wv.heap.size ≤ b := fun b hb => (own_base HO8.out hb).1
          have hub := lt_of HO3.out.cell
          unfold Hid
          rw [HJN.out]
          refine HO3.out.next (v' := .slice oa8 (nn2 + m) oc8) HV3.out HJA.out (fr_set (.none HG8X.out) (.inl (.inl rfl)) _) (set_self HRW8.out _) (zs := ys3 ++ ys6) ?_ (by rw [List.map_append, HMAP3.out, HM6.out]) (.inr hbs)
          rw [List.length_append, HYS3.out, HYS6.out, flC_append]
          exact own_fr (own_mono HO8.out (Nat.le_of_lt hub)) (fr_set (X := fun b => b = ub2) (p := ⟨ub2, q, none⟩) (Fr.refl _ _) (.inl rfl) _) (fun b hb e => by have := hbs b hb; omega)
        have HXN : Hid ((w8x.setCell ⟨ub2, q, none⟩ (.slice oa8 (nn2 + m) oc8)).heap[xB]? = some (.cells #[.slice (some ⟨b7, o7, none⟩) K ic, .int .i64 (m : Int), .bool rest] 34 (0, 0))) := by
          unfold Hid
          rw [set_other (fun e => HU2.out.2 e.symm)]
          exact row_kept HG8X.out HXR3.out (by simp)
        have HGN : Hid (w9.grownBy (w8x.setCell ⟨ub2, q, none⟩ (.slice oa8 (nn2 + m) oc8)) none) := grown_set (p := ⟨ub2, q, none⟩) (grown_trans HG93.out HG8X.out) (.inr HU2.out.1) _
        clear u3 u3a u3b x0a x0b x0c e7a e7b e7c e7 hx0 t0 tf
        go_wp2_with fail
        refine ⟨?_, by simp [intOf]; omega⟩
        first
          | exact ⟨q + 1, _, by omega, rfl, HNX.out, HXN.out, HGN.out⟩
          | (repeat apply Exists.intro
             refine ⟨?_, rfl⟩
             exact ⟨q + 1, _, by omega, rfl, HNX.out, HXN.out, HGN.out⟩)
      --F>
end Go.Proofs.Ytdliilmnfbgplaa.GRunsL
