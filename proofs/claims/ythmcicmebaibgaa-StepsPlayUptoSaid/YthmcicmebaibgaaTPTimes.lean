/- window.times: the walk. -/
import Derived.Test.YthmcicmebaibgaaTPEv
import Derived.Test.YthmcicmebaibgaaTPl
namespace Go.Proofs.Ythmcicmebaibgaa.TPTimes
open Go Go.RowKit Go.Proofs.Ythmcicmebaibgaa.WMod Go.Proofs.Ythmcicmebaibgaa.TMod Go.Proofs.Ythmcicmebaibgaa.TRead Go.Proofs.Ythmcicmebaibgaa.TSz Go.Proofs.Ythmcicmebaibgaa.TEv Go.Proofs.Ythmcicmebaibgaa.TPl Go.Proofs.Ythmcicmebaibgaa.TApp Go.Proofs.Ythmcicmebaibgaa.TWin Go.Proofs.Ythmcicmebaibgaa.TPEv Go.Proofs.Ythmcicmebaibgaa.Opn Go.Proofs.Ythmcicmebaibgaa.Hp Go.Proofs.Ythmcicmebaibgaa.Rd Go.Proofs.Ythmcicmebaibgaa.TWWrong Go.Proofs.Ythmcicmebaibgaa.TSame
set_option linter.unusedVariables false
set_option linter.unusedSimpArgs false

/-- What play does with sections. -/
def Plays (w0 : World) (wb : Nat) (fr till : Int) (v : Value) (k : For) : Prop := ∀ (a : Int) (w : World) (X : List Ev), 0 ≤ a → a + dur k ≤ 1125899906842624 → WinS w0 w wb fr till X →
  Calls Try.prog 23 #[.pointer (some ⟨wb, 0, none⟩), v, .int .i64 a] w fun e w' => e = .returned (.tuple #[]) ∧ Hid (WinS w0 w' wb fr till (X ++ win fr till (playF k a))) ∧ Hid (Gr w0.heap.size [69, 60] w w')

set_option maxHeartbeats 6000000 in
set_option maxRecDepth 100000 in
theorem times_calls (t l : Int) (evs : List Ev) (k : For) (ve : Value) (vs : SlP) (vk : Value) (A : Nat → Prop) (w0 w : World) (wb : Nat) (fr till a : Int) (X : List Ev) (ht0 : 0 ≤ t) (ht1 : t ≤ 65536) (hl0 : 0 ≤ l) (hl1 : l ≤ 65536) (hw : wrong evs = 0) (hl : lateB l evs = false) (hk : Fine k)
    (ho : 0 < l + dur k) (ha0 : 0 ≤ a) (ha1 : a + t * (l + dur k) ≤ 1125899906842624) (hf0 : 0 ≤ fr) (hf1 : fr ≤ 1125899906842624) (ht2 : till ≤ 1125899906842624) (hfa : fr < a + t * (l + dur k)) (hE : EvsA w0 A ve evs) (hP : Plays w0 wb fr till vk k) (hW : WinS w0 w wb fr till X) :
    Calls Try.prog 30 #[.pointer (some ⟨wb, 0, none⟩), .agg (szC t l evs k ve vs vk).toArray, .int .i64 a] w fun e w' => e = .returned (.tuple #[]) ∧ Hid (WinS w0 w' wb fr till (X ++ win fr till (secF t l evs k a))) ∧ Hid (Gr w0.heap.size [69, 60] w w') := by
  obtain ⟨sa, sn, sc⟩ := vs
  obtain ⟨m0, hq, hmt, hm0, hmo0, hmo1⟩ := first_of ho hfa ht0
  have HSF := Lib.hid (sec_from (t := t) hw hl hl0 hk (till := till) hmt hm0)
  have HTILL := Lib.hid (fun n a' h => rep_till (fr := fr) (till := till) hw hl hl0 hk (a := a') n h)
  have dk := dur_nonneg hk
  have HEV := Lib.hid hE.evs
  have HP := Lib.hid hP
  have HW := Lib.hid hW
  have hne5 : evs.length ≤ 4096 := by
    unfold wrong at hw
    split at hw
    · cases hw
    · omega
  have HBD : Hid (∀ e ∈ evs, 0 ≤ e.at_ ∧ e.at_ ≤ 65536) := by
    intro e he
    have h1 := (shift_within hw hl 0).2 (shift 0 e) (List.mem_map_of_mem he)
    simp only [shift] at h1
    omega
  obtain ⟨ae, ce, rfl⟩ := evs_len hE.evs
  obtain ⟨ne, hne⟩ : ∃ ne, evs.length = ne := ⟨_, rfl⟩
  have HNE := Lib.hid hne
  unfold szC
  rw [hne] at hne5 ⊢
  obtain ⟨O, hO⟩ : ∃ O, l + dur k = O := ⟨_, rfl⟩
  have HOO := Lib.hid hO
  have HONE : Hid (∀ X b, X ++ win fr till (oneF l evs k b) = (X ++ win fr till (evs.map (shift b))) ++ win fr till (playF k (b + l))) := fun X b => one_step fr till X
  rw [hO] at ho ha1 hfa hq hm0 hmo0 hmo1 HSF HTILL ⊢
  have HQ : Hid ((if a < fr then fr - a else 0) / O = (m0 : Int)) := by
    unfold Hid
    rw [← hq, Int.tdiv_eq_ediv_of_nonneg (by omega)]
    congr 1
    split <;> omega
  obtain ⟨D, hD⟩ : ∃ D : Int, (if a < fr then fr - a else 0) = D := ⟨_, rfl⟩
  rw [hD] at HQ
  have HD := Lib.hid hD
  obtain ⟨dK, hdK⟩ : ∃ dK, dur k = dK := ⟨_, rfl⟩
  have HDK := Lib.hid hdK
  rw [hdK] at hO dk
  obtain ⟨Y, hY⟩ : ∃ Y, t * O = Y := ⟨_, rfl⟩
  rw [hY] at ha1 hfa hmo1 ⊢
  have HY := Lib.hid hY
  obtain ⟨sm, hsm⟩ : ∃ sm, someS evs k = sm := ⟨_, rfl⟩
  rw [hsm]
  clear hE hP hW hw hl hk hne hY hsm hq hm0 hdK hD
  have hlO : l + dK = O := hO
  have HLO := Lib.hid hlO
  have hlO1 : l ≤ O := by omega
  clear hlO hO
  have efr : IntKind.i64.wrap (fr - a) = fr - a := IntWalk.i64_in _ (by omega)
  go_enter Try.func30, Try.ntmps30
  go_wp2_with fail
  obtain ⟨sb, hsb⟩ : ∃ sb, w.heap.size = sb := ⟨_, rfl⟩
  have HSB := Lib.hid hsb
  clear hsb
  simp only [HSB.out]
  obtain ⟨wA, hwA⟩ : ∃ wA, w.alloc (.cells #[.int .i64 t, .int .i64 l, .slice ae ne ce, .slice sa sn sc, .int .i64 O, .int .i64 Y, .bool sm, vk] 74) = wA := ⟨_, rfl⟩
  have HGA : Hid (w.grownBy wA none) := by unfold Hid; rw [← hwA]; exact grown_alloc (grown_refl _ _) _
  have HRB : Hid (wA.heap[sb]? = some (.cells #[.int .i64 t, .int .i64 l, .slice ae ne ce, .slice sa sn sc, .int .i64 O, .int .i64 Y, .bool sm, vk] 74 (0, 0))) := by unfold Hid; rw [← hwA, ← HSB.out]; exact heap_alloc_new _ _
  simp only [hwA]
  clear hwA
  have HWA : Hid (WinS w0 wA wb fr till X) := HW.out.kept HGA.out
  have HGRA : Hid (Gr w0.heap.size [69, 60] w wA) := Gr.of_none HGA.out
  obtain ⟨ax, cx, hr0, _, _⟩ := HWA.out.ex
  have HWB : Hid (wA.heap[wb]? = some (.cells #[.int .i64 fr, .int .i64 till, .slice ax (X.take 4096).length cx, .bool (decide (4096 < X.length))] 69 (0, 0))) := hr0
  have q0 := cell_of HWB.out 0
  have p4 := cell_of HRB.out 4
  clear hr0
  have hOz : (O == 0) = false := by rw [beq_eq_false_iff_ne]; omega
  go_quiet (fail)
  go_upto_region 2 with fail
  simp only [HD.out, HQ.out]
  have HGQ : Hid (wA.grownBy (wA.drewN nq) none) := grown_drewN (grown_refl _ _) _
  clear q0 p4
  obtain ⟨wq, hwq⟩ : ∃ wq, wA.drewN nq = wq := ⟨_, rfl⟩
  rw [hwq] at HGQ
  simp only [hwq]
  clear hwq
  have HRBQ : Hid (wq.heap[sb]? = some (.cells #[.int .i64 t, .int .i64 l, .slice ae ne ce, .slice sa sn sc, .int .i64 O, .int .i64 Y, .bool sm, vk] 74 (0, 0))) := row_kept HGQ.out HRB.out (by simp)
  have HWQ : Hid (WinS w0 wq wb fr till X) := HWA.out.kept HGQ.out
  have HGRQ : Hid (Gr w0.heap.size [69, 60] w wq) := HGRA.out.trans (Gr.of_none HGQ.out)
  clear HWB HRB HWA HGRA HGQ HGA hOz efr
  have p4 := cell_of HRBQ.out 4
  obtain ⟨B0, hB0⟩ : ∃ B0, (m0 : Int) * O = B0 := ⟨_, rfl⟩
  rw [hB0] at hmo0 hmo1 HSF
  have eb : IntKind.i64.wrap ((m0 : Int) * O) = B0 := by rw [hB0]; exact IntWalk.i64_in _ (by omega)
  have eb2 : IntKind.i64.wrap (a + B0) = a + B0 := IntWalk.i64_in _ (by omega)
  have HB0 := Lib.hid hB0
  clear hB0
  go_wp2_with fail
  clear p4 eb eb2
  obtain ⟨T, hT⟩ : ∃ T : Nat, t = (T : Int) := ⟨t.toNat, (Int.toNat_of_nonneg ht0).symm⟩
  have HTT := Lib.hid hT
  clear hT HW
  go_loopw [2, 6] (fun v2 v6 wr => ∃ (m : Nat) (b : Int) (Z : List Ev), m ≤ T ∧ m0 ≤ m ∧ v2 = .int .i64 b ∧ v6 = .int .i64 (m : Int) ∧ 0 ≤ b ∧ Hid (b + ((T - m : Nat) : Int) * O = a + Y) ∧ Hid (Z ++ win fr till (repF (oneF l evs k) O (T - m) b) = X ++ win fr till (secF t l evs k a)) ∧ Hid (WinS w0 wr wb fr till Z) ∧ Hid (Gr w0.heap.size [69, 60] wq wr)) (fun _ v6 _ => T - (intOf v6).toNat)
  case atStart =>
    refine ⟨m0, a + B0, X, by have := HTT.out; unfold Hid at this; omega, Nat.le_refl _, rfl, rfl, by omega, ?_, ?_, HWQ.out, Gr.refl _ _ _⟩
    · unfold Hid
      have h1 := HB0.out
      have h2 := HY.out
      have h3 := HTT.out
      unfold Hid at h1 h2 h3
      rw [← h1, ← h2, h3, Int.add_assoc, ← Int.add_mul]
      congr 2
      omega
    · unfold Hid
      rw [HSF.out, show t.toNat = T from by have := HTT.out; unfold Hid at this; omega]
  case round =>
    obtain ⟨m, b, Z, hmT, hmm, rfl, rfl, hb0, HBT, HRES, HWR, HGR⟩ := hrel
    have HRS : Hid (wr.heap[sb]? = some (.cells #[.int .i64 t, .int .i64 l, .slice ae ne ce, .slice sa sn sc, .int .i64 O, .int .i64 Y, .bool sm, vk] 74 (0, 0))) := HGR.out.keep HRBQ.out (by simp)
    have HGRW : Hid (Gr w0.heap.size [69, 60] w wr) := HGRQ.out.trans HGR.out
    obtain ⟨ax2, cx2, hr2, _, _⟩ := HWR.out.ex
    have HWB : Hid (wr.heap[wb]? = some (.cells #[.int .i64 fr, .int .i64 till, .slice ax2 (Z.take 4096).length cx2, .bool (decide (4096 < Z.length))] 69 (0, 0))) := hr2
    clear hr2
    obtain ⟨zn, hzn⟩ : ∃ zn, (Z.take 4096).length = zn := ⟨_, rfl⟩
    obtain ⟨zf, hzf⟩ : ∃ zf, decide (4096 < Z.length) = zf := ⟨_, rfl⟩
    rw [hzn, hzf] at HWB
    have HZF := Lib.hid hzf
    clear hzn hzf
    have p0 := cell_of HRS.out 0
    have q1 := cell_of HWB.out 1
    have q3 := cell_of HWB.out 3
    by_cases c1 : m = T
    · have HF : Hid (WinS w0 wr wb fr till (X ++ win fr till (secF t l evs k a))) := by
        unfold Hid
        rw [← HRES.out, c1, Nat.sub_self]
        show WinS w0 wr wb fr till (Z ++ [])
        rw [List.append_nil]
        exact HWR.out
      have hle : t ≤ (m : Int) := by have := HTT.out; unfold Hid at this; omega
      clear c1
      go_wp2_with fail
      go_end0
      exact ⟨rfl, HF.out, HGRW.out⟩
    have c1' : (m : Int) < t := by have := HTT.out; unfold Hid at this; omega
    by_cases c2 : till ≤ b
    · have HF : Hid (WinS w0 wr wb fr till (X ++ win fr till (secF t l evs k a))) := by
        unfold Hid
        rw [← HRES.out, HTILL.out _ _ c2, List.append_nil]
        exact HWR.out
      go_wp2_with fail
      go_end0
      exact ⟨rfl, HF.out, HGRW.out⟩
    have c2' : b < till := by omega
    cases zf
    rotate_left
    · have HF : Hid (WinS w0 wr wb fr till (X ++ win fr till (secF t l evs k a))) := by
        unfold Hid
        rw [← HRES.out]
        exact HWR.out.full (of_decide_eq_true HZF.out) _
      go_wp2_with fail
      go_end0
      exact ⟨rfl, HF.out, HGRW.out⟩
    obtain ⟨d, hd⟩ : ∃ d, T - m = d + 1 := ⟨T - m - 1, by omega⟩
    have hbt := HBT.out
    unfold Hid at hbt
    rw [hd] at hbt
    have hbo : b + O ≤ a + Y ∧ b + O + (d : Int) * O = a + Y := by
      rw [Int.natCast_add, Int.add_mul] at hbt
      have : 0 ≤ (d : Int) * O := Int.mul_nonneg (by omega) (by omega)
      constructor
      · simp at hbt; omega
      · simp at hbt; omega
    obtain ⟨hbo1, hbo2⟩ := hbo
    have HBT2 : Hid (b + O + ((T - (m + 1) : Nat) : Int) * O = a + Y) := by
      unfold Hid
      rw [show T - (m + 1) = d from by omega]
      exact hbo2
    have HRES2 : Hid (((Z ++ win fr till (evs.map (shift b))) ++ win fr till (playF k (b + l))) ++ win fr till (repF (oneF l evs k) O (T - (m + 1)) (b + O)) = X ++ win fr till (secF t l evs k a)) := by
      have h := HRES.out
      unfold Hid at h ⊢
      rw [hd, rep_step, HONE.out] at h
      rw [show T - (m + 1) = d from by omega]
      exact h
    have p2 := cell_of HRS.out 2
    clear hbt hbo2 hd HBT HRES HZF
    have EC := Lib.hid (events_calls evs ae ce w0 wr wb fr till b Z HEV.out HBD.out hb0 (by omega) (by rw [HNE.out]; exact hne5) HWR.out)
    rw [HNE.out] at EC
    go_upto_region 5 with fail
    go_upto_region 6 with (go_at_call 32; refine (EC.out).mono ?_; rintro e1 w1 ⟨rfl, hw1, hg1⟩)
    obtain ⟨wx, rfl⟩ : ∃ wx : World, wx = w1 := ⟨_, rfl⟩
    have HRS1 : Hid (wx.heap[sb]? = some (.cells #[.int .i64 t, .int .i64 l, .slice ae ne ce, .slice sa sn sc, .int .i64 O, .int .i64 Y, .bool sm, vk] 74 (0, 0))) := hg1.out.keep HRS.out (by simp)
    clear p0 q1 q3 p2
    have p1 := cell_of HRS1.out 1
    have p7 := cell_of HRS1.out 7
    have ebl : IntKind.i64.wrap (b + l) = b + l := IntWalk.i64_in _ (by omega)
    have PC := Lib.hid (HP.out (b + l) wx _ (by omega) (by have := HLO.out; have h2 := HDK.out; unfold Hid at this h2; omega) hw1.out)
    go_upto_region 7 with (go_at_call 23; refine (PC.out).mono ?_; rintro e2 w2 ⟨rfl, hw2, hg2⟩)
    obtain ⟨wy, rfl⟩ : ∃ wy : World, wy = w2 := ⟨_, rfl⟩
    have HRS2 : Hid (wy.heap[sb]? = some (.cells #[.int .i64 t, .int .i64 l, .slice ae ne ce, .slice sa sn sc, .int .i64 O, .int .i64 Y, .bool sm, vk] 74 (0, 0))) := hg2.out.keep HRS1.out (by simp)
    clear p1 p7
    have p4 := cell_of HRS2.out 4
    have ebo : IntKind.i64.wrap (b + O) = b + O := IntWalk.i64_in _ (by omega)
    have emm : IntKind.i64.wrap ((m : Int) + 1) = (m : Int) + 1 := IntWalk.i64_in _ (by omega)
    have HGR2 : Hid (Gr w0.heap.size [69, 60] wq wy) := (HGR.out.trans hg1.out).trans hg2.out
    go_wp2_with fail
    refine ⟨?_, by simp [intOf]; omega⟩
    first
      | exact ⟨m + 1, b + O, _, by omega, by omega, rfl, rfl, by omega, HBT2.out, HRES2.out, hw2.out, HGR2.out⟩
      | (repeat apply Exists.intro
         refine ⟨?_, rfl⟩
         exact ⟨m + 1, b + O, _, by omega, by omega, rfl, rfl, by omega, HBT2.out, HRES2.out, hw2.out, HGR2.out⟩)

end Go.Proofs.Ythmcicmebaibgaa.TPTimes
