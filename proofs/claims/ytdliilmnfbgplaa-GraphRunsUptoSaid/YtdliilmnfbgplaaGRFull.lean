/- The reference makes all samples: the walk. -/
import Derived.Test.YtdliilmnfbgplaaGRFullP
import Derived.Deep.AppendLies
namespace Go.Proofs.Ytdliilmnfbgplaa.GRFull
open Go Go.RowKit Go.Proofs.Ytdliilmnfbgplaa.Fl Go.Proofs.Ytdliilmnfbgplaa.Fw Go.Proofs.Ytdliilmnfbgplaa.GRd Go.Proofs.Ytdliilmnfbgplaa.GCells Go.Proofs.Ytdliilmnfbgplaa.GStep Go.Proofs.Ytdliilmnfbgplaa.GMod Go.Proofs.Ytdliilmnfbgplaa.GMem Go.Proofs.Ytdliilmnfbgplaa.GNode Go.Proofs.Ytdliilmnfbgplaa.GPMem Go.Proofs.Ytdliilmnfbgplaa.GOuts Go.Proofs.Ytdliilmnfbgplaa.GSub Go.Proofs.Ytdliilmnfbgplaa.GMade Go.Proofs.Ytdliilmnfbgplaa.GNewF Go.Proofs.Ytdliilmnfbgplaa.GRNode Go.Proofs.Ytdliilmnfbgplaa.GRAllP Go.Proofs.Ytdliilmnfbgplaa.GRSamp Go.Proofs.Ytdliilmnfbgplaa.GRFullP Go.Proofs.Ytdliilmnfbgplaa.GRun Go.Proofs.Ytdliilmnfbgplaa.GPiece Go.Proofs.Ytdliilmnfbgplaa.Hp Go.Proofs.Ytdliilmnfbgplaa.Rd Go.Proofs.Ytdliilmnfbgplaa.Opn
set_option linter.unusedVariables false
set_option linter.unusedSimpArgs false

theorem outs0 {w : World} {ub M : Nat} (h : w.heap[ub]? = some (.cells (List.replicate M (Value.slice none 0 0)).toArray 38 (0, 0))) : OutsR w ub ub (List.replicate M (.slice none 0 0)) (List.replicate M []) := by
  refine ⟨h, Nat.le_refl _, by simp, fun i v l hv hl => ?_, fun i v hv => ?_, fun i j v u b hv _ hb => ?_⟩
  · rw [List.getElem?_replicate] at hv hl
    split at hv
    · rename_i hi
      rw [if_pos hi] at hl
      injection hv with hv
      injection hl with hl
      subst hv hl
      exact ⟨[], ⟨rfl, .inl ⟨rfl, rfl⟩⟩, rfl⟩
    · cases hv
  · rw [List.getElem?_replicate] at hv
    split at hv
    · injection hv with hv
      subst hv
      simp [Value.ownBlock]
    · cases hv
  · rw [List.getElem?_replicate] at hv
    split at hv
    · injection hv with hv
      subst hv
      simp [Value.ownBlock] at hb
    · cases hv

/-- All samples are made. -/
def AllP (w : World) (N : Nat) (P : List (List Nat)) (e : Ending) (w' : World) : Prop :=
  ∃ ub vs, e = .returned (.slice (some ⟨ub, 0, none⟩) N N) ∧ Hid (OutsR w' ub ub vs P) ∧ w.heap.size ≤ ub ∧ Hid (w.grownBy w' none)

/-- Of the one that is made now. -/
theorem arity_of {g : Gd} {x : Nd} (he : madeE g x = 0) : (x.kind = 3 ∨ x.kind = 6 ∨ x.kind = 7 → 1 ≤ x.from_.length) ∧ (x.kind = 5 → 2 ≤ x.from_.length) := by
  obtain ⟨h1, h2, _⟩ := made_ok he
  constructor
  · rintro (e | e | e) <;> (rw [e] at h2; have : manyZ 3 = 1 := rfl; have : manyZ 6 = 1 := rfl; have : manyZ 7 = 1 := rfl; omega)
  · intro e
    rw [e] at h2
    have : manyZ 5 = 2 := rfl
    omega

set_option maxHeartbeats 8000000 in
set_option maxRecDepth 100000 in
theorem all_calls (A : Nat → Prop) (g : Gd) (na oa ia : Option Addr) (nc oc ic : Nat) (ls : List (List Nat)) (n : Nat) (P : List (List Nat)) (L : List Nat) (w : World) (hnd : NdsR w A (.slice na g.nodes.length nc) g.nodes) (hN : g.nodes.length ≤ 256) (hm : ∀ x ∈ g.nodes, madeE g x = 0)
    (hfl : ∀ x ∈ g.nodes, x.from_.length ≤ 1048576 ∧ x.pt.step < 4294967296) (hin : InsR w A (.slice ia ls.length ic) ls) (hil : (ls.length : Int) = g.ins) (hls : ∀ l ∈ ls, l.length = n) (hn : n ≤ 1099511627776) (hT : Topo g L) (hPl : P.length = g.nodes.length) (hP : ∀ l ∈ P, l.length = n)
    (hF : ∀ t, t < n → ∀ i x, g.nodes[i]? = some x → (P.getD i []).getD t 0 = smpN P ls x i t) :
    Calls Try.prog 10 #[gdV g.ins (.slice na g.nodes.length nc) (.slice oa g.outs.length oc), .slice ia ls.length ic, .int .i64 (n : Int)] w fun e w' => AllP w g.nodes.length P e w' := by
  obtain ⟨N, hNe⟩ : ∃ N, g.nodes.length = N := ⟨_, rfl⟩
  obtain ⟨M, hM⟩ : ∃ M, g.outs.length = M := ⟨_, rfl⟩
  obtain ⟨ins, hins⟩ : ∃ ins, g.ins = ins := ⟨_, rfl⟩
  obtain ⟨K, hK⟩ : ∃ K, ls.length = K := ⟨_, rfl⟩
  have RC := fun (ub : Nat) (vs : List Value) (Q : List (List Nat)) (i t : Nat) (x : Nd) (v : World) h1 h2 h3 h4 h5 h6 => ready_calls A g na oa nc oc ub ub vs Q i t x v h1 h2 h3 h4 h5 h6
  have SC := fun (ub : Nat) (vs : List Value) (Q : List (List Nat)) (i t : Nat) (x : Nd) (v : World) h1 h2 h3 h4 h5 h6 h7 h8 h9 h10 h11 h12 h13 => sample_calls A g na oa ia nc oc ic ls ub ub vs Q i t x v h1 h2 h3 h4 h5 h6 h7 h8 h9 h10 h11 h12 h13
  unfold gdV at RC SC ⊢
  have HN := Lib.hid hNe
  have HK := Lib.hid hK
  have HINS := Lib.hid hins
  have HIL := Lib.hid hil
  have HPL := Lib.hid hPl
  rw [hNe] at hnd hN RC SC ⊢
  rw [hM] at RC SC ⊢
  rw [hK] at hin SC ⊢
  rw [hins] at RC SC ⊢
  have HRC := Lib.hid RC
  have HSC := Lib.hid SC
  have HND := Lib.hid hnd
  have HM := Lib.hid hm
  have HFL := Lib.hid hfl
  have HIN := Lib.hid hin
  have HLS := Lib.hid hls
  have HT := Lib.hid hT
  have HP := Lib.hid hP
  have HF := Lib.hid hF
  have HRF : Hid (∀ x ∈ g.nodes, ∀ k ∈ x.from_, 0 ≤ k ∧ k < (N : Int)) := fun x hx => by rw [← hNe]; exact (made_ok (hm x hx)).2.2.1
  have HGA : Hid (w.grownBy (w.alloc (.cells #[.int .i64 ins, .slice na N nc, .slice oa M oc] 25)) none) := grown_alloc (grown_refl _ _) _
  have HAB : Hid ((w.alloc (.cells #[.int .i64 ins, .slice na N nc, .slice oa M oc] 25)).heap[w.heap.size]? = some (.cells #[.int .i64 ins, .slice na N nc, .slice oa M oc] 25 (0, 0))) := heap_alloc_new _ _
  clear hnd hfl hNe hM hins hm hin hK hil hls hT hPl hP hF RC SC
  go_enter Try.func10, Try.ntmps10
  go_upto_region 1 with fail
  obtain ⟨wa, hwa⟩ : ∃ wa, w.alloc (.cells #[.int .i64 ins, .slice na N nc, .slice oa M oc] 25) = wa := ⟨_, rfl⟩
  obtain ⟨aB, haB⟩ : ∃ aB, w.heap.size = aB := ⟨_, rfl⟩
  have hsz : w.heap.size ≤ wa.heap.size := by rw [← hwa]; simp
  have HSZ := Lib.hid hsz
  rw [hwa] at HGA HAB
  rw [haB] at HAB
  simp only [hwa, haB]
  clear hwa haB hsz
  have e1 := cell_of HAB.out 1
  obtain ⟨j0, hj, hz0, hz1, hz2⟩ := info_parts info38
  obtain ⟨j46, hj46, hf0, hf1, hf2⟩ := info_parts info46
  go_upto_region 2 with (first | (at_make; refine wpList_make_full _ rfl _ _ 39 rfl wa.heap.size 38 j0 (.slice none 0 0) 1 Try.underlying39 hj hz0 hz1 _ _ _ _ N rfl rfl rfl rfl (by rw [hz2]; omega) (by unfold maxLen; omega) (Nat.le_refl _) ?_; intro w3 hown3 hg3; have HOWN3 := Lib.hid hown3; have HG3 := Lib.hid hg3; clear hown3 hg3))
  have HO0 : Hid (OutsR w3 wa.heap.size wa.heap.size (List.replicate N (.slice none 0 0)) (rowsQ P 0 (List.replicate N false))) := by
    unfold Hid
    rw [rq_zero (by rw [HPL.out, HN.out])]
    refine outs0 ?_
    have h := HOWN3.out
    rw [show (madeCells (Value.slice none 0 0).cells (N * 1)).toList = List.replicate N (Value.slice none 0 0) from by rw [Nat.mul_one]; exact madeCells_one _ _] at h
    exact new_of_made h
  obtain ⟨ub, hub⟩ : ∃ ub, wa.heap.size = ub := ⟨_, rfl⟩
  have HUB : Hid (wa.heap.size = ub) := hub
  rw [hub] at HO0
  simp only [hub]
  clear hub HOWN3 e1
  go_upto_region 3 with fail
  go_loopw [8, 9] (fun v8 v9 wr => ∃ (t : Nat) (vs : List Value), t ≤ n ∧ v8 = .int .i64 (t : Int) ∧ Hid (OutsR wr ub ub vs (rowsQ P t (List.replicate N false))) ∧ Hid (wa.grownBy wr none)) (fun v8 _ _ => n - (intOf v8).toNat)
  case atStart => exact ⟨0, _, Nat.zero_le _, rfl, HO0.out, HG3.out⟩
  case round =>
    obtain ⟨t, vs, ht, rfl, HOU, HGR⟩ := hrel
    obtain ⟨wz, hwz⟩ : ∃ wz : World, wz = wr := ⟨_, rfl⟩
    subst hwz
    clear HO0 HG3
    by_cases htn : t = n
    · have HEND : Hid (OutsR wz ub ub vs P) := by
        have h := HOU.out
        rw [htn, rq_all (by rw [HPL.out, HN.out]) HP.out] at h
        exact h
      have HUL : Hid (w.heap.size ≤ ub) := by
        have h1 := HSZ.out
        have h2 := HUB.out
        unfold Hid at h1 h2 ⊢
        omega
      have h2 := htn.symm
      subst h2
      clear htn
      go_wp2_with fail
      go_ret
      exact ⟨ub, vs, rfl, HEND.out, HUL.out, grown_trans HGA.out HGR.out⟩
    have htl : (t : Int) < (n : Int) := by omega
    have htl2 : t < n := by omega
    have hwt : IntKind.i64.wrap ((t : Int) + 1) = (t : Int) + 1 := IntWalk.i64_in _ (by omega)
    have e1 := grown_cell HGR.out (cell_of HAB.out 1) (by simp)
    go_upto_region 6 with fail
    go_loopw [9, 22] (fun v9 v22 wr => ∃ (r : Nat) (vs : List Value) (dn : List Bool), r ≤ N ∧ v22 = .int .i64 (r : Int) ∧ Hid (OutsR wr ub ub vs (rowsQ P t dn)) ∧ Hid (DI L N r 0 dn) ∧ Hid (wa.grownBy wr none)) (fun _ v22 _ => N - (intOf v22).toNat)
    case atStart => exact ⟨0, vs, _, Nat.zero_le _, rfl, HOU.out, di_zero L N, HGR.out⟩
    case round =>
      clear HOU HGR e1
      obtain ⟨r, vs, dn, hr, rfl, HOU, HDI, HGR⟩ := hrel
      obtain ⟨wy, hwy⟩ : ∃ wy : World, wy = wr := ⟨_, rfl⟩
      subst hwy
      by_cases hrN : r = N
      · have HOU2 : Hid (OutsR wy ub ub vs (rowsQ P (t + 1) (List.replicate N false))) := by
          have h := HDI.out
          rw [hrN] at h
          have h3 := DI.done (g := g) HT.out (by rw [HN.out]; exact h)
          have h2 := HOU.out
          rw [h3, HN.out, rq_next (by rw [HPL.out, HN.out])] at h2
          exact h2
        have h2 := hrN.symm
        subst h2
        clear hrN
        go_wp2_with fail
        refine ⟨?_, by simp [intOf]; omega⟩
        first
          | exact ⟨t + 1, vs, by omega, rfl, HOU2.out, HGR.out⟩
          | (repeat apply Exists.intro
             refine ⟨?_, rfl⟩
             exact ⟨t + 1, vs, by omega, rfl, HOU2.out, HGR.out⟩)
      have hrl : (r : Int) < (N : Int) := by omega
      have hrl2 : r < N := by omega
      have hwr' : IntKind.i64.wrap ((r : Int) + 1) = (r : Int) + 1 := IntWalk.i64_in _ (by omega)
      have e1 := grown_cell HGR.out (cell_of HAB.out 1) (by simp)
      go_upto_region 8 with fail
      go_loopw [9, 27] (fun v9 v27 wr => ∃ (i : Nat) (vs : List Value) (dn : List Bool), i ≤ N ∧ v27 = .int .i64 (i : Int) ∧ Hid (OutsR wr ub ub vs (rowsQ P t dn)) ∧ Hid (DI L N r i dn) ∧ Hid (wa.grownBy wr none)) (fun _ v27 _ => N - (intOf v27).toNat)
      case atStart => exact ⟨0, vs, dn, Nat.zero_le _, rfl, HOU.out, HDI.out, HGR.out⟩
      case round =>
        clear HOU HDI HGR e1
        obtain ⟨i, vs, dn, hi, rfl, HOU, HDI, HGR⟩ := hrel
        obtain ⟨wx, hwx⟩ : ∃ wx : World, wx = wr := ⟨_, rfl⟩
        subst hwx
        by_cases hiN : i = N
        · have HDI2 : Hid (DI L N (r + 1) 0 dn) := by
            have h := HDI.out
            rw [hiN] at h
            exact h.round (fun j hj => by rw [← HN.out]; exact HT.out.lt j hj)
          have h2 := hiN.symm
          subst h2
          clear hiN
          go_wp2_with fail
          refine ⟨?_, by simp [intOf]; omega⟩
          first
            | exact ⟨r + 1, vs, dn, by omega, rfl, HOU.out, HDI2.out, HGR.out⟩
            | (repeat apply Exists.intro
               refine ⟨?_, rfl⟩
               exact ⟨r + 1, vs, dn, by omega, rfl, HOU.out, HDI2.out, HGR.out⟩)
        have hil : (i : Int) < (N : Int) := by omega
        have hil2 : i < N := by omega
        have hwi : IntKind.i64.wrap ((i : Int) + 1) = (i : Int) + 1 := IntWalk.i64_in _ (by omega)
        have HPN : Hid (P.length = N) := by unfold Hid; rw [HPL.out, HN.out]
        have HDL : Hid (dn.length = P.length) := by unfold Hid; rw [HPN.out, HDI.out.len]
        obtain ⟨l0, hl0⟩ : ∃ l0, (rowsQ P t dn)[i]? = some l0 := ⟨(rowsQ P t dn)[i]'(by rw [rq_len HDL.out, HPN.out]; exact hil2), List.getElem?_eq_getElem _⟩
        have hl0g : (rowsQ P t dn).getD i [] = l0 := by rw [List.getD_eq_getElem?_getD, hl0]; rfl
        have hlen := rq_length (t := t) HDL.out HP.out htl2 (i := i) (by rw [HPN.out]; exact hil2)
        rw [hl0g] at hlen
        obtain ⟨a, c, hvi, u1, _⟩ := outs_at HOU.out hl0
        have HVI := Lib.hid hvi
        have HL0 := Lib.hid hl0
        have HL0G := Lib.hid hl0g
        have HLEN := Lib.hid hlen
        clear hvi hl0 hl0g
        cases hdn : dn.getD i false with
        | true =>
          rw [hdn, if_pos rfl] at hlen
          have HDI2 : Hid (DI L N r (i + 1) dn) := HDI.out.skip (fun _ => hdn)
          obtain ⟨LL, hLL⟩ : ∃ LL, l0.length = LL := ⟨_, rfl⟩
          rw [hLL] at u1 hlen
          have hb1 : ¬ (LL : Int) = (t : Int) := by omega
          have hb2 : ((LL : Int) == (t : Int)) = false := by simpa using hb1
          have hb3 : ¬ LL = t := by omega
          clear hLL hlen hdn
          go_wp2_with fail
          refine ⟨?_, by simp [intOf]; omega⟩
          first
            | exact ⟨i + 1, vs, dn, by omega, rfl, HOU.out, HDI2.out, HGR.out⟩
            | (repeat apply Exists.intro
               refine ⟨?_, rfl⟩
               exact ⟨i + 1, vs, dn, by omega, rfl, HOU.out, HDI2.out, HGR.out⟩)
        | false =>
          rw [hdn, if_neg (by decide)] at hlen
          rw [hlen] at u1 HVI
          have HDN := Lib.hid hdn
          have HLT := Lib.hid hlen
          clear hdn hlen HLEN
          obtain ⟨x, hx⟩ : ∃ x, g.nodes[i]? = some x := ⟨g.nodes[i]'(by rw [HN.out]; exact hil2), List.getElem?_eq_getElem _⟩
          have hxm := List.mem_of_getElem? hx
          have HX := Lib.hid hx
          have HXF := Lib.hid (HFL.out x hxm)
          have HXM := Lib.hid (HM.out x hxm)
          have HXR := Lib.hid (HRF.out x hxm)
          clear hx hxm
          have HGW : Hid (w.grownBy wx none) := grown_trans HGA.out HGR.out
          have RC1 := HRC.out ub vs (rowsQ P t dn) i t x wx (HND.out.fr (X := fun _ => False) (.none HGW.out) (fun _ _ => id)) HX.out HXF.out.1 HXR.out HOU.out (by rw [rq_len HDL.out]; exact HPN.out)
          obtain ⟨RB, hRB⟩ : ∃ RB, readyB (rowsQ P t dn) x t = RB := ⟨_, rfl⟩
          rw [hRB] at RC1
          have HRB := Lib.hid hRB
          have HRC1 := Lib.hid RC1
          have e0 := grown_cell HGR.out (cell_of HAB.out 0) (by simp)
          have e1 := grown_cell HGR.out (cell_of HAB.out 1) (by simp)
          have e2 := grown_cell HGR.out (cell_of HAB.out 2) (by simp)
          have HU1 := Lib.hid u1
          clear hRB RC1
          go_upto_region 11 with (go_at_call 18; refine (HRC1.out).mono ?_; rintro ez w6 ⟨rfl, hg6⟩; have HG6 := Lib.hid hg6.out; cases RB)
          · have HDI2 : Hid (DI L N r (i + 1) dn) := HDI.out.skip (fun hLr => by
              have h := DI.ready (g := g) HT.out (by rw [HN.out]; exact HDI.out) HPL.out HP.out htl2 HX.out (fun k hk => by have := HXR.out k hk; rw [HN.out]; omega) hLr
              rw [HRB.out] at h
              cases h)
            have HOU6 := Lib.hid (HOU.out.grown HG6.out)
            have HGN : Hid (wa.grownBy w6 none) := grown_trans HGR.out HG6.out
            clear hg6 e0 e1 e2 u1
            go_wp2_with fail
            refine ⟨?_, by simp [intOf]; omega⟩
            first
              | exact ⟨i + 1, vs, dn, by omega, rfl, HOU6.out, HDI2.out, HGN.out⟩
              | (repeat apply Exists.intro
                 refine ⟨?_, rfl⟩
                 exact ⟨i + 1, vs, dn, by omega, rfl, HOU6.out, HDI2.out, HGN.out⟩)
          · have HOU6 := Lib.hid (HOU.out.grown HG6.out)
            have f0 := grown_cell HG6.out e0 (by simp)
            have f1 := grown_cell HG6.out e1 (by simp)
            have f2 := grown_cell HG6.out e2 (by simp)
            have u2 := grown_cell HG6.out u1 (by simp)
            have HGN6 : Hid (wa.grownBy w6 none) := grown_trans HGR.out HG6.out
            have HGW6 : Hid (w.grownBy w6.drew none) := grown_drew (grown_trans HGA.out HGN6.out)
            have hkr : ∀ k ∈ x.from_, k.toNat < P.length := fun k hk => by
              have := HXR.out k hk
              rw [HPN.out]
              omega
            have hrdy := ready_iff HDL.out HP.out htl2 (x := x) hkr HRB.out
            have hiP : i < P.length := by rw [HPN.out]; exact hil2
            have SC1 := HSC.out ub vs (rowsQ P t dn) i t x w6.drew (HND.out.fr (X := fun _ => False) (.none HGW6.out) (fun _ _ => id)) HX.out HXM.out HXF.out.1 HXF.out.2 (HIN.out.fr (X := fun _ => False) (.none HGW6.out) (fun _ _ => id)) (by have h := HIL.out; rw [HK.out] at h; rw [h]; exact HINS.out) (fun l hl => by rw [HLS.out l hl]; exact htl2) (by omega)
              (HOU6.out.grown (grown_drew (grown_refl _ _))) (by rw [rq_len HDL.out]; exact HPN.out) (by rw [HL0G.out, HLT.out]; exact Nat.le_refl _) (fun k hk => by
                rw [rq_length HDL.out HP.out htl2 (hkr k hk)]
                by_cases h6 : x.kind = 6
                · rw [if_pos h6]; split <;> omega
                · rw [if_neg h6, if_pos (hrdy.resolve_left h6 k hk)]; omega)
            have har := arity_of HXM.out
            have hsm : smpN (rowsQ P t dn) ls x i t = (P.getD i []).getD t 0 := (rq_smp (g := g) HDL.out hiP hkr hrdy (fun e => ((made_ok HXM.out).2.2.2.2.1 e).1) har.1 har.2 (kinds HXM.out)).trans (HF.out t htl2 i x HX.out).symm
            rw [hsm] at SC1
            obtain ⟨Y, hY⟩ : ∃ Y, (P.getD i []).getD t 0 = Y := ⟨_, rfl⟩
            have HSET := Lib.hid (rq_set HDL.out HP.out htl2 hiP HDN.out)
            rw [hY] at SC1 HSET
            have HSC1 := Lib.hid SC1
            obtain ⟨ys, hown6, hmap6⟩ := HOU6.out.val i _ l0 HVI.out HL0.out
            have hys : ys.length = t := by
              have h := congrArg List.length hmap6
              rw [List.length_map, HLT.out] at h
              exact h
            rw [hys] at hown6
            have HOWN6 := Lib.hid hown6
            have HMAP6 := Lib.hid hmap6
            have HYS := Lib.hid hys
            have HRW6 := Lib.hid HOU6.out.cell
            have HNO := Lib.hid (HOU6.out.own i _ HVI.out)
            have HU6 : Hid (ub < w6.heap.size) := lt_of HRW6.out
            clear hg6 e0 e1 e2 u1 hkr hrdy hiP har hsm SC1 hY hown6 hmap6 hys
            go_region_law (first
              | (refine step_append_lies _ rfl (.tmp 49) (.tmp 56) 38 rfl ub 46 j46 (.float .f64 0) 1 8 Try.underlying38 hj46 hf0 hf1 hf2 rfl (by decide) (.slice a t c) t (flC fC ys) rfl (HOWD.out _ (by repeat (first | exact grown_alloc (grown_refl _ _) _ | refine grown_drew ?_))) ⟨wc.heap.size, 0, none⟩ 1 1 [.float .f64 y] rfl rfl (World.news_of_block (cs := #[.float .f64 y]) (t := 46) (fr := (0, 0)) (by exact heap_alloc_new wc _)) (by simp [Value.oneCell']) (by decide) (by unfold maxLen; omega) (by omega) (by have := HBS.out; unfold Hid at this; simp; omega) _ rfl ?_; intro g9 cap w9 hown9 hgrow hat hlt9; have HG9 : Hid (w6.grownBy w9 (Value.slice a t c).ownBlock) := grown_trans (grown_none (grown_trans HGC.out (by repeat (first | exact grown_alloc (grown_refl _ _) _ | refine grown_drew ?_))) _) hgrow; have HAT : Hid ((Value.slice a t c).ownBlock = some g9 ∨ w6.heap.size ≤ g9) := hat.imp id (fun h => by have h5 := HGC.out.size; rw [h]; simp; omega); have HOWN := Lib.hid hown9; have HR9 := row_kept HG9.out HRW6.out (fun e => HNO.out e.symm); have t0 := (cell_of HR9 i).trans ((cell_of HRW6.out i).symm.trans u2); have tf := free_of HR9 i; clear hown9 hgrow hat hlt9 HR9)
              | (go_simp; go_at_call 19; refine (HSC1.out).mono ?_; rintro ez wc ⟨y, rfl, hy, hgc⟩; have HCN := Lib.hid hy; have HGC : Hid (w6.grownBy wc none) := grown_trans (grown_drew (grown_refl _ _)) hgc.out; have HBS : Hid (ub ≤ wc.heap.size) := Nat.le_trans (Nat.le_of_lt HU6.out) HGC.out.size; have HOWD : Hid (∀ v, wc.grownBy v none → v.ownsRow ub 46 1 (.slice a t c) t (flC fC ys)) := fun v hv => own_kept HOWN6.out (grown_trans HGC.out hv); have u3 := grown_cell HGC.out u2 (by simp); have u4 : ∀ o, (wc.alloc o).cell? ⟨ub, i, none⟩ = some (.slice a t c) := fun o => grown_cell (grown_alloc (grown_refl wc none) o) u3 (by simp); clear hy hgc))
            all_goals
              have HNX : Hid (OutsR (w9.setCell ⟨ub, i, none⟩ (.slice (some ⟨g9, 0, none⟩) (t + 1) cap)) ub ub (vs.set i (.slice (some ⟨g9, 0, none⟩) (t + 1) cap)) (rowsQ P t (dn.set i true))) := by
                have hne : g9 ≠ ub := fun e => by
                  rcases HAT.out with h | h
                  · exact HNO.out (by rw [h, e])
                  · have h2 := HU6.out
                    unfold Hid at h2
                    omega
                have hf1 : Fr (fun b => b = ub ∨ (Value.slice a t c).ownBlock = some b) w6 w9 := .of HG9.out (fun i e => .inr e)
                unfold Hid
                rw [HSET.out, HL0G.out]
                refine HOU6.out.next (v' := .slice (some ⟨g9, 0, none⟩) (t + 1) cap) HVI.out HL0.out (fr_set hf1 (.inl (.inl rfl)) _) ?_ (zs := ys ++ [y]) ?_ ?_ ?_
                · rw [set_self (row_kept HG9.out HRW6.out (fun e => HNO.out e.symm))]
                · have h := HOWN.out
                  rw [flC_append, List.length_append, HYS.out]
                  exact own_fr h (fr_set (X := fun b => b = ub) (p := ⟨ub, i, none⟩) (Fr.refl _ _) (.inl rfl) _) (fun b hb e => by
                    simp only [Value.ownBlock, Option.some.injEq] at hb
                    omega)
                · rw [List.map_append, HMAP6.out, List.map_cons, List.map_nil, HCN.out]
                · rcases HAT.out with h | h
                  · exact .inl (by rw [h]; rfl)
                  · exact .inr (fun b hb => by simp only [Value.ownBlock, Option.some.injEq] at hb; omega)
              have HDN2 := Lib.hid (HDI.out.set hil2)
              have HGN : Hid (wa.grownBy (w9.setCell ⟨ub, i, none⟩ (.slice (some ⟨g9, 0, none⟩) (t + 1) cap)) none) := by
                have h2 := HUB.out
                unfold Hid at h2
                exact grown_set (p := ⟨ub, i, none⟩) (grown_own HGN6.out HOWN6.out (Nat.le_of_eq h2) HG9.out) (.inr (Nat.le_of_eq h2)) _
              clear f0 f1 f2 u2 u3 u4 t0 tf
              go_wp2_with fail
              refine ⟨?_, by simp [intOf]; omega⟩
              first
                | exact ⟨i + 1, _, _, by omega, rfl, HNX.out, HDN2.out, HGN.out⟩
                | (repeat apply Exists.intro
                   refine ⟨?_, rfl⟩
                   exact ⟨i + 1, _, _, by omega, rfl, HNX.out, HDN2.out, HGN.out⟩)
end Go.Proofs.Ytdliilmnfbgplaa.GRFull
