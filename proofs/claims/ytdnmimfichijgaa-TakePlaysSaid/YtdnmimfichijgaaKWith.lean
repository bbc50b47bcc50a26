/- with: a line with one tone more: the walk. -/
import Derived.Test.YtdnmimfichijgaaKIns
import Derived.Test.YtdnmimfichijgaaKWrong
import Derived.Deep.RegionWith
namespace Go.Proofs.Ytdnmimfichijgaa.KWith
open Go Go.RowKit Go.Proofs.Ytdnmimfichijgaa.KMod Go.Proofs.Ytdnmimfichijgaa.KRead Go.Proofs.Ytdnmimfichijgaa.KLess Go.Proofs.Ytdnmimfichijgaa.KCells Go.Proofs.Ytdnmimfichijgaa.KClone Go.Proofs.Ytdnmimfichijgaa.KIns Go.Proofs.Ytdnmimfichijgaa.KWrong Go.Proofs.Ytdnmimfichijgaa.Opn Go.Proofs.Ytdnmimfichijgaa.Hp Go.Proofs.Ytdnmimfichijgaa.Rd
set_option linter.unusedVariables false
set_option linter.unusedSimpArgs false

theorem own_mono {w : World} {B B' : Nat} {e : TypeId} {sz : Nat} {v : Value} {n : Nat} {xs : List Value} (h : w.ownsRow B' e sz v n xs) (hB : B ≤ B') : w.ownsRow B e sz v n xs := by
  refine ⟨h.1, ?_⟩
  rcases h.2 with h | ⟨g, cap, cur, hv, hb, rest⟩
  · exact .inl h
  · exact .inr ⟨g, cap, cur, hv, Nat.le_trans hB hb, rest⟩

theorem pair_tos (w : World) (x t : Tone) : Tos (w.alloc (.cells #[.int .i64 x.at_, .int .i64 x.long, .int .i64 x.lt, .int .i64 x.al, .int .i64 x.oc, .int .i64 t.at_, .int .i64 t.long, .int .i64 t.lt, .int .i64 t.al, .int .i64 t.oc] 38)) (.slice (some ⟨w.heap.size, 0, none⟩) 2 2) [x, t] := by
  refine .inl ⟨w.heap.size, 0, 2, trivial, rfl, fun i y hy j u hu => ?_⟩
  have hj : j < 5 := by have := (List.getElem?_eq_some_iff.1 hu).1; exact this
  rw [cell_of (heap_alloc_new _ _)]
  match i, hy with
  | 0, hy =>
    simp at hy
    subst hy
    match j, hj, hu with
    | 0, _, hu => simpa [Tone.cells] using hu
    | 1, _, hu => simpa [Tone.cells] using hu
    | 2, _, hu => simpa [Tone.cells] using hu
    | 3, _, hu => simpa [Tone.cells] using hu
    | 4, _, hu => simpa [Tone.cells] using hu
  | 1, hy =>
    simp at hy
    subst hy
    match j, hj, hu with
    | 0, _, hu => simpa [Tone.cells] using hu
    | 1, _, hu => simpa [Tone.cells] using hu
    | 2, _, hu => simpa [Tone.cells] using hu
    | 3, _, hu => simpa [Tone.cells] using hu
    | 4, _, hu => simpa [Tone.cells] using hu
  | i + 2, hy => simp at hy

set_option maxHeartbeats 6000000 in
set_option maxRecDepth 100000 in
theorem with_calls (ao : Option Addr) (c : Nat) (es : List Tone) (t : Tone) (w : World) (hv : Tos w (.slice ao es.length c) es) (hok : ∀ x ∈ es, okT x) (ht : okT t) (hbig : es.length ≤ 1024) :
    Calls Try.prog 31 #[.slice ao es.length c, .agg #[.int .i64 t.at_, .int .i64 t.long, .int .i64 t.lt, .int .i64 t.al, .int .i64 t.oc]] w fun e w' => ∃ v, e = .returned v ∧ Hid (w'.ownsRow w.heap.size 38 5 v (es.length + 1) (flC Tone.cells (insT es t))) ∧ Hid (w.grownBy w' none) := by
  have HWC := Lib.hid (fun (x : Tone) (hx : okT x) (w' : World) => wrong_calls (some ⟨w'.heap.size, 0, none⟩) 2 [x, t] (w'.alloc (.cells #[.int .i64 x.at_, .int .i64 x.long, .int .i64 x.lt, .int .i64 x.al, .int .i64 x.oc, .int .i64 t.at_, .int .i64 t.long, .int .i64 t.lt, .int .i64 t.al, .int .i64 t.oc] 38)) (pair_tos w' x t) (by simp))
  have HW2 := Lib.hid (fun (x : Tone) (hx : okT x) => wrong_two hx ht)
  have HV := Lib.hid hv
  have HOK := Lib.hid hok
  have HIT : Hid (insT es t = es.take (insK es t) ++ t :: es.drop (insK es t)) := rfl
  obtain ⟨IK, hIK⟩ : ∃ IK, insK es t = IK := ⟨_, rfl⟩
  have HIK := Lib.hid hIK
  have hIKl : IK ≤ es.length := by rw [← hIK]; exact insK_le es t
  rw [hIK] at HIT
  have CC := Lib.hid (fun (w' : World) (hg : w.grownBy w' none) => clone_calls ao c es w' (hv.grown hg) (by omega))
  have IC := Lib.hid (fun (B : Nat) (a2 : Option Addr) (c2 vb : Nat) (vcs : Array Value) (w' : World) (hB : B ≤ w'.heap.size) (ho : w'.ownsRow B 38 5 (.slice a2 es.length c2) es.length (flC Tone.cells es)) h1 h2 h3 => ins_calls B a2 c2 es.length IK vb vcs es t w' rfl hIKl (by omega) hB ho h1 h2 h3)
  obtain ⟨n, hn⟩ : ∃ n, es.length = n := ⟨_, rfl⟩
  have HN := Lib.hid hn
  have hnb : (n : Int) ≤ 1024 := by omega
  rw [hn] at HV CC hIKl ⊢
  simp only [hn] at IC
  obtain ⟨IT, hIT⟩ : ∃ IT, insT es t = IT := ⟨_, rfl⟩
  rw [hIT] at HIT ⊢
  have HITE := Lib.hid HIT.out.symm
  clear hv hok ht hbig hn hIK hIT HIT
  obtain ⟨ta, tl, tt, tal, to_⟩ := t
  simp only at HWC
  have HVT : Hid (∀ (j : Nat) (u : Value), (Tone.cells ⟨ta, tl, tt, tal, to_⟩)[j]? = some u → (#[.int .i64 ta, .int .i64 tl, .int .i64 tt, .int .i64 tal, .int .i64 to_] : Array Value)[j]? = some u) := fun j u hu => by rw [← Array.getElem?_toList]; exact hu
  go_enter Try.func31, Try.ntmps31
  go_wp2_with fail
  obtain ⟨sb, hsb⟩ : ∃ sb, w.heap.size = sb := ⟨_, rfl⟩
  have HSB := Lib.hid hsb
  clear hsb
  simp only [HSB.out]
  obtain ⟨wA, hwA⟩ : ∃ wA, w.alloc (.cells #[.int .i64 ta, .int .i64 tl, .int .i64 tt, .int .i64 tal, .int .i64 to_] 38) = wA := ⟨_, rfl⟩
  have HGA : Hid (w.grownBy wA none) := by unfold Hid; rw [← hwA]; exact grown_alloc (grown_refl _ _) _
  have HRA : Hid (wA.heap[sb]? = some (.cells #[.int .i64 ta, .int .i64 tl, .int .i64 tt, .int .i64 tal, .int .i64 to_] 38 (0, 0))) := by unfold Hid; rw [← hwA, ← HSB.out]; exact heap_alloc_new _ _
  simp only [hwA]
  clear hwA
  go_loopw [5] (fun v5 wr => ∃ k : Nat, k ≤ n ∧ v5 = .int .i64 (k : Int) ∧ Hid (IK = insK (es.take k) ⟨ta, tl, tt, tal, to_⟩) ∧ Hid (wA.grownBy wr none)) (fun v5 _ => (intOf v5).toNat)
  case atStart => exact ⟨n, Nat.le_refl _, rfl, by unfold Hid; rw [← HN.out, List.take_length]; exact HIK.out.symm, grown_refl _ _⟩
  case round =>
    obtain ⟨k, hk, rfl, HK, HG⟩ := hrel
    obtain ⟨wz, hwz⟩ : ∃ wz : World, wz = wr := ⟨_, rfl⟩
    subst hwz
    have HGZ : Hid (w.grownBy wz none) := grown_trans HGA.out HG.out
    have HRZ : Hid (wz.heap[sb]? = some (.cells #[.int .i64 ta, .int .i64 tl, .int .i64 tt, .int .i64 tal, .int .i64 to_] 38 (0, 0))) := row_kept HG.out HRA.out (by simp)
    by_cases hk0 : k = 0
    · have HKE : Hid (IK = k) := by
        unfold Hid
        rw [HK.out, hk0, List.take_zero]
        rfl
      have hke := HKE.out
      clear HKE
      subst hke
      have hkb : decide ((0 : Int) < (IK : Int)) = false := decide_eq_false (by omega)
      have hkc : decide (0 < IK) = false := decide_eq_false (by omega)
      have hkz : (IK : Int) ≤ 0 := by omega
      have HK0 := Lib.hid hk0
      clear hk0
      go_wp2_with fail
      go_quiet (fail)
      clear hkb hkc
      go_wp2_with fail
      obtain ⟨wf, hwf⟩ : ∃ wf, wz.drewN nq = wf := ⟨_, rfl⟩
      have HGF : Hid (w.grownBy wf none) := by unfold Hid; rw [← hwf]; exact grown_drewN HGZ.out _
      have HRF : Hid (wf.heap[sb]? = some (.cells #[.int .i64 ta, .int .i64 tl, .int .i64 tt, .int .i64 tal, .int .i64 to_] 38 (0, 0))) := by unfold Hid; rw [← hwf]; exact HRZ.out
      simp only [hwf]
      clear hwf
      have p0 := cell_of HRF.out 0
      have p1 := cell_of HRF.out 1
      have p2 := cell_of HRF.out 2
      have p3 := cell_of HRF.out 3
      have p4 := cell_of HRF.out 4
      go_region_with (first
        | (go_at_call 27; refine (CC.out _ (by first | exact grown_drew HGF.out | exact grown_drew (grown_alloc HGF.out _) | exact grown_alloc (grown_drew HGF.out) _)).mono ?_; rintro ec wc ⟨vc, rfl, hoc, hgc⟩; obtain ⟨a2, c2, rfl⟩ := own_slice hoc.out; have HOB := Lib.hid (fun q hq => own_base hoc.out (b := q) hq); have HGCF := Lib.hid hgc.out; have HGC : Hid (w.grownBy wc none) := grown_trans (by first | exact grown_drew HGF.out | exact grown_drew (grown_alloc HGF.out _) | exact grown_alloc (grown_drew HGF.out) _) hgc.out; have HOC : Hid (wc.ownsRow w.heap.size 38 5 (.slice a2 n c2) n (flC Tone.cells es)) := own_mono hoc.out (by have := HGF.out.size; simp; omega); have HRC : Hid (wc.heap[sb]? = some (.cells #[.int .i64 ta, .int .i64 tl, .int .i64 tt, .int .i64 tal, .int .i64 to_] 38 (0, 0))) := row_kept (grown_trans (a := wf) (by first | exact grown_drew (grown_refl _ _) | exact grown_drew (grown_alloc (grown_refl _ _) _) | exact grown_alloc (grown_drew (grown_refl _ _)) _) hgc.out) HRF.out (by simp); have q0 := cell_of HRC.out 0; have q1 := cell_of HRC.out 1; have q2 := cell_of HRC.out 2; have q3 := cell_of HRC.out 3; have q4 := cell_of HRC.out 4)
        | (go_at_call 35; refine (IC.out w.heap.size a2 c2 _ #[.int .i64 ta, .int .i64 tl, .int .i64 tt, .int .i64 tal, .int .i64 to_] _ (by first | exact HGC.out.size | exact Nat.le_trans HGC.out.size (by simp)) (by first | exact HOC.out | exact own_kept HOC.out (grown_alloc (grown_refl _ _) _)) (by first | exact heap_alloc_new _ _ | exact row_kept HGCF.out (heap_alloc_new wf _) (by simp)) HVT.out (by intro hq; first | exact absurd (HOB.out _ hq).2 (Nat.lt_irrefl _) | exact absurd (HOB.out _ hq).1 (by simp))).mono ?_; rintro ei wi ⟨v', rfl, hoi, hgi⟩; have HOI := Lib.hid hoi.out; have HGI : Hid (w.grownBy wi none) := (by first | exact grown_own HGC.out HOC.out (Nat.le_refl _) hgi.out | exact grown_own (grown_alloc HGC.out _) (own_kept HOC.out (grown_alloc (grown_refl _ _) _)) (Nat.le_refl _) hgi.out); clear hoi hgi))
      all_goals
        go_wp2_with fail
        go_ret
        exact ⟨v', rfl, by rw [← HITE.out]; exact HOI.out, HGI.out⟩
    · obtain ⟨j, hj⟩ : ∃ j, k = j + 1 := ⟨k - 1, by omega⟩
      obtain ⟨x, hx⟩ : ∃ x, es[j]? = some x := ⟨es[j]'(by have := HN.out; unfold Hid at this; omega), List.getElem?_eq_getElem _⟩
      obtain ⟨b, off, rfl, _, hrg⟩ := sla_at HV.out hx
      have hxok := HOK.out x (List.mem_of_getElem? hx)
      have HKS : Hid (IK = if lessB ⟨ta, tl, tt, tal, to_⟩ x = true then insK (es.take j) ⟨ta, tl, tt, tal, to_⟩ else k) := by
        unfold Hid
        have hl : (es.take j).length = j := by rw [List.length_take]; have := HN.out; unfold Hid at this; omega
        rw [HK.out, hj, List.take_add_one, hx]
        simp only [Option.toList_some]
        rw [ins_snoc, hl]
      have HW3 := Lib.hid (HW2.out x hxok)
      have HWX := Lib.hid (fun w' => HWC.out x hxok w')
      obtain ⟨xa, xl, xt, xal, xo⟩ := x
      have f0 : wz.cell? ⟨b, off + j * 5, none⟩ = some (.int .i64 xa) := grown_cell HGZ.out (hrg 0 _ rfl) (by simp)
      have f1 : wz.cell? ⟨b, off + j * 5 + 1, none⟩ = some (.int .i64 xl) := grown_cell HGZ.out (hrg 1 _ rfl) (by simp)
      have f2 : wz.cell? ⟨b, off + j * 5 + 2, none⟩ = some (.int .i64 xt) := grown_cell HGZ.out (hrg 2 _ rfl) (by simp)
      have f3 : wz.cell? ⟨b, off + j * 5 + 3, none⟩ = some (.int .i64 xal) := grown_cell HGZ.out (hrg 3 _ rfl) (by simp)
      have f4 : wz.cell? ⟨b, off + j * 5 + 4, none⟩ = some (.int .i64 xo) := grown_cell HGZ.out (hrg 4 _ rfl) (by simp)
      have hkb : decide ((0 : Int) < (k : Int)) = true := decide_eq_true (by omega)
      have hkc : decide (0 < k) = true := decide_eq_true (by omega)
      have ei : IntKind.i64.wrap ((k : Int) - 1) = (j : Int) := by rw [IntWalk.i64_in _ (by omega)]; omega
      have hjn : (j : Int) < (n : Int) := by omega
      have hkp : (0 : Int) < (k : Int) := by omega
      have HJ := Lib.hid hj
      clear hrg hx hj hk0 hxok
      go_wp2_with fail
      have hne := Mixed.Later.nonempty wz
      have k0 : ∀ n : Mixed.Later wz, n.w.cell? ⟨sb, 0, none⟩ = some (.int .i64 ta) := Mixed.Later.cell (cell_of HRZ.out 0)
      have k1 : ∀ n : Mixed.Later wz, n.w.cell? ⟨sb, 1, none⟩ = some (.int .i64 tl) := Mixed.Later.cell (cell_of HRZ.out 1)
      have k2 : ∀ n : Mixed.Later wz, n.w.cell? ⟨sb, 2, none⟩ = some (.int .i64 tt) := Mixed.Later.cell (cell_of HRZ.out 2)
      have k3 : ∀ n : Mixed.Later wz, n.w.cell? ⟨sb, 3, none⟩ = some (.int .i64 tal) := Mixed.Later.cell (cell_of HRZ.out 3)
      have k4 : ∀ n : Mixed.Later wz, n.w.cell? ⟨sb, 4, none⟩ = some (.int .i64 to_) := Mixed.Later.cell (cell_of HRZ.out 4)
      have g0 : ∀ n : Mixed.Later wz, n.w.cell? ⟨b, off + j * 5, none⟩ = some (.int .i64 xa) := Mixed.Later.cell f0
      have g1 : ∀ n : Mixed.Later wz, n.w.cell? ⟨b, off + j * 5 + 1, none⟩ = some (.int .i64 xl) := Mixed.Later.cell f1
      have g2 : ∀ n : Mixed.Later wz, n.w.cell? ⟨b, off + j * 5 + 2, none⟩ = some (.int .i64 xt) := Mixed.Later.cell f2
      have g3 : ∀ n : Mixed.Later wz, n.w.cell? ⟨b, off + j * 5 + 3, none⟩ = some (.int .i64 xal) := Mixed.Later.cell f3
      have g4 : ∀ n : Mixed.Later wz, n.w.cell? ⟨b, off + j * 5 + 4, none⟩ = some (.int .i64 xo) := Mixed.Later.cell f4
      clear f0 f1 f2 f3 f4
      refine Mixed.wp_region_mixed (Mixed.late wz) (fun k => k == 9 || k == 10) (by kernel_rfl) (by kernel_rfl) (Mixed.late_of (grown_drew (grown_refl _ _))) ?_
      unfold Mixed.late
      refine Mixed.wpM_quiet rfl rfl rfl ?_; intro Kx hKx; go_big_quiet_op; go_big_quiet_on
      refine Mixed.wpM_quiet rfl rfl rfl ?_; intro Kx hKx; go_big_quiet_op; go_big_quiet_on
      refine Mixed.wpM_quiet rfl rfl rfl ?_; intro Kx hKx; go_big_quiet_op; go_big_quiet_on
      refine Mixed.wpM_quiet rfl rfl rfl ?_; intro Kx hKx; go_big_quiet_op; go_big_quiet_on
      refine Mixed.wpM_quiet rfl rfl rfl ?_; intro Kx hKx; go_big_quiet_op; go_big_quiet_on
      refine Mixed.wpM_quiet rfl rfl rfl ?_; intro Kx hKx; go_big_quiet_op; go_big_quiet_on
      refine Mixed.wpM_quiet rfl rfl rfl ?_; intro Kx hKx; go_big_quiet_op; go_big_quiet_on
      refine Mixed.wpM_quiet rfl rfl rfl ?_; intro Kx hKx; go_big_quiet_op; go_big_quiet_on
      refine Mixed.wpM_quiet rfl rfl rfl ?_; intro Kx hKx; go_big_quiet_op; go_big_quiet_on
      refine Mixed.wpM_make rfl rfl (.slice (some ⟨wz.heap.size, 0, none⟩) 2 2) (wz.drew.alloc (.cells #[.int .i64 xa, .int .i64 xl, .int .i64 xt, .int .i64 xal, .int .i64 xo, .int .i64 ta, .int .i64 tl, .int .i64 tt, .int .i64 tal, .int .i64 to_] 38)) (by go_simp) ⟨⟨_, grown_alloc (grown_drew (grown_refl _ _)) _⟩, rfl⟩ ?_
      go_simp
      refine Mixed.wpM_call rfl rfl 30 _ (by go_simp; rfl) ?_
      refine (HWX.out wz.drew).mono ?_
      rintro ez w5 ⟨rfl, hg5⟩
      have HG5 : Hid (wz.grownBy w5 none) := grown_trans (grown_alloc (grown_drew (grown_refl _ _)) _) hg5.out
      refine ⟨_, rfl, ⟨⟨w5, HG5.out⟩, rfl⟩, ?_⟩
      clear hg5
      rw [HW3.out]
      cases hlx : lessB ⟨ta, tl, tt, tal, to_⟩ ⟨xa, xl, xt, xal, xo⟩
      · have hke : IK = k := by
          have h := HKS.out
          rw [hlx] at h
          exact h
        subst hke
        clear hlx HKS
        go_simp
        refine Mixed.wpM_quiet rfl rfl rfl ?_; intro Kx hKx; go_big_quiet_op; go_big_quiet_on
        refine Mixed.wpM_quiet rfl rfl rfl ?_; intro Kx hKx; go_big_quiet_op; go_big_quiet_on
        refine Mixed.wpM_nil ?_
        intro nx hnx
        clear nx hnx k0 k1 k2 k3 k4 g0 g1 g2 g3 g4 hne ei hkb hkc hkp hjn
        obtain ⟨wf, rfl⟩ : ∃ wf : World, wf = w5 := ⟨_, rfl⟩
        have HGF : Hid (w.grownBy wf none) := grown_trans HGZ.out HG5.out
        have HRF : Hid (wf.heap[sb]? = some (.cells #[.int .i64 ta, .int .i64 tl, .int .i64 tt, .int .i64 tal, .int .i64 to_] 38 (0, 0))) := row_kept HG5.out HRZ.out (by simp)
        clear HG5 HRZ
        have p0 := cell_of HRF.out 0
        have p1 := cell_of HRF.out 1
        have p2 := cell_of HRF.out 2
        have p3 := cell_of HRF.out 3
        have p4 := cell_of HRF.out 4
        go_wp2_with fail
        go_region_with (first
          | (go_at_call 27; refine (CC.out _ (by first | exact grown_drew HGF.out | exact grown_drew (grown_alloc HGF.out _) | exact grown_alloc (grown_drew HGF.out) _)).mono ?_; rintro ec wc ⟨vc, rfl, hoc, hgc⟩; obtain ⟨a2, c2, rfl⟩ := own_slice hoc.out; have HOB := Lib.hid (fun q hq => own_base hoc.out (b := q) hq); have HGCF := Lib.hid hgc.out; have HGC : Hid (w.grownBy wc none) := grown_trans (by first | exact grown_drew HGF.out | exact grown_drew (grown_alloc HGF.out _) | exact grown_alloc (grown_drew HGF.out) _) hgc.out; have HOC : Hid (wc.ownsRow w.heap.size 38 5 (.slice a2 n c2) n (flC Tone.cells es)) := own_mono hoc.out (by have := HGF.out.size; simp; omega); have HRC : Hid (wc.heap[sb]? = some (.cells #[.int .i64 ta, .int .i64 tl, .int .i64 tt, .int .i64 tal, .int .i64 to_] 38 (0, 0))) := row_kept (grown_trans (a := wf) (by first | exact grown_drew (grown_refl _ _) | exact grown_drew (grown_alloc (grown_refl _ _) _) | exact grown_alloc (grown_drew (grown_refl _ _)) _) hgc.out) HRF.out (by simp); have q0 := cell_of HRC.out 0; have q1 := cell_of HRC.out 1; have q2 := cell_of HRC.out 2; have q3 := cell_of HRC.out 3; have q4 := cell_of HRC.out 4)
          | (go_at_call 35; refine (IC.out w.heap.size a2 c2 _ #[.int .i64 ta, .int .i64 tl, .int .i64 tt, .int .i64 tal, .int .i64 to_] _ (by first | exact HGC.out.size | exact Nat.le_trans HGC.out.size (by simp)) (by first | exact HOC.out | exact own_kept HOC.out (grown_alloc (grown_refl _ _) _)) (by first | exact heap_alloc_new _ _ | exact row_kept HGCF.out (heap_alloc_new wf _) (by simp)) HVT.out (by intro hq; first | exact absurd (HOB.out _ hq).2 (Nat.lt_irrefl _) | exact absurd (HOB.out _ hq).1 (by simp))).mono ?_; rintro ei wi ⟨v', rfl, hoi, hgi⟩; have HOI := Lib.hid hoi.out; have HGI : Hid (w.grownBy wi none) := (by first | exact grown_own HGC.out HOC.out (Nat.le_refl _) hgi.out | exact grown_own (grown_alloc HGC.out _) (own_kept HOC.out (grown_alloc (grown_refl _ _) _)) (Nat.le_refl _) hgi.out); clear hoi hgi))
        all_goals
          go_wp2_with fail
          go_ret
          exact ⟨v', rfl, by rw [← HITE.out]; exact HOI.out, HGI.out⟩
      · have hke : IK = insK (es.take j) ⟨ta, tl, tt, tal, to_⟩ := by
          have h := HKS.out
          rw [hlx] at h
          exact h
        have HKE := Lib.hid hke
        clear hlx HKS hke
        go_simp
        refine Mixed.wpM_quiet rfl rfl rfl ?_; intro Kx hKx; go_big_quiet_op; go_big_quiet_on
        refine Mixed.wpM_quiet rfl rfl rfl ?_; intro Kx hKx; go_big_quiet_op; go_big_quiet_on
        refine Mixed.wpM_nil ?_
        intro nx hnx
        clear nx hnx k0 k1 k2 k3 k4 g0 g1 g2 g3 g4 hne hkb hkc hkp
        go_wp2_with fail
        exact ⟨⟨j, by have h := HJ.out; unfold Hid at h; omega, rfl, HKE.out, grown_trans HG.out HG5.out⟩, by have h := HJ.out; unfold Hid at h; simp [intOf]; omega⟩
end Go.Proofs.Ytdnmimfichijgaa.KWith
