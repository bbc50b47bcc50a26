/- The take that lies on a disk: the walk. -/
import Derived.Test.YtdnmimfichijgaaKDo
import Derived.Test.YtdnmimfichijgaaKEq
namespace Go.Proofs.Ytdnmimfichijgaa.KOpen
open Go Go.RowKit Go.Proofs.Ytdnmimfichijgaa.KMod Go.Proofs.Ytdnmimfichijgaa.KTk Go.Proofs.Ytdnmimfichijgaa.KRead Go.Proofs.Ytdnmimfichijgaa.KCells Go.Proofs.Ytdnmimfichijgaa.KDisk Go.Proofs.Ytdnmimfichijgaa.KNext Go.Proofs.Ytdnmimfichijgaa.KTones Go.Proofs.Ytdnmimfichijgaa.KDo Go.Proofs.Ytdnmimfichijgaa.KEq Go.Proofs.Ytdnmimfichijgaa.Hp Go.Proofs.Ytdnmimfichijgaa.Rd Go.Proofs.Ytdnmimfichijgaa.Opn
set_option linter.unusedVariables false
set_option linter.unusedSimpArgs false

theorem get_at (db wb cap : Nat) (sa : Option Addr) (d : Dk) (i : Nat) (I : Int) (w : World) (h : DkR w db wb sa cap d) (hi : i < d.words.length) (hI : I = (i : Int)) :
    Calls Try.prog 56 #[.pointer (some ⟨db, 0, none⟩), .int .i64 I] w fun e w' => e = .returned (.int .i64 (d.words.getD i 0)) ∧ Hid (w.grownBy w' none) := by
  subst hI
  exact get_calls db wb cap sa d i _ w h (by rw [List.getElem?_eq_getElem hi, List.getD_eq_getElem?_getD, List.getElem?_eq_getElem hi]; rfl)

theorem arr8 {cur : Array Value} {f : Nat → Value} (hs : cur.size = 8) (h : ∀ j, j < 8 → cur[j]? = some (f j)) : cur = #[f 0, f 1, f 2, f 3, f 4, f 5, f 6, f 7] := by
  apply Array.ext (by rw [hs]; rfl)
  intro i h1 h2
  have h3 := h i (by omega)
  rw [Array.getElem?_eq_getElem h1] at h3
  injection h3 with h3
  rw [h3]
  have : i < 8 := by omega
  match i, this with
  | 0, _ | 1, _ | 2, _ | 3, _ | 4, _ | 5, _ | 6, _ | 7, _ => rfl

theorem open_stop {ws : List Int} {f k : Nat} {s : Ver} (h : ¬ (k * 8 + 8 ≤ ws.length ∧ k < 1024 ∧ goodAt ws s (k * 8) = true)) : openFrom ws f k s = (s, k) := by
  cases f with
  | zero => rfl
  | succ f =>
    unfold openFrom
    rw [if_neg h]
theorem open_step {ws : List Int} {k : Nat} {s : Ver} (h1 : k * 8 + 8 ≤ ws.length) (h2 : k < 1024) (h3 : goodAt ws s (k * 8) = true) : openFrom ws (1024 - k) k s = openFrom ws (1024 - (k + 1)) (k + 1) (nextE s (edAt ws (k * 8))) := by
  obtain ⟨f, hf⟩ : ∃ f, 1024 - k = f + 1 := ⟨1024 - (k + 1), by omega⟩
  rw [hf, show 1024 - (k + 1) = f from by omega]
  conv => lhs; unfold openFrom
  rw [if_pos ⟨h1, h2, h3⟩]

set_option maxHeartbeats 4000000 in
set_option maxRecDepth 100000 in
theorem open_calls (Z : Nat → Prop) (db wb cap : Nat) (sa : Option Addr) (d : Dk) (w : World) (h : DkR w db wb sa cap d) (hZ : ∀ b, Z b → b < w.heap.size) :
    Calls Try.prog 14 #[.iface 50 (.pointer (some ⟨db, 0, none⟩))] w
      fun r w' => ∃ tb, r = .returned (.pointer (some ⟨tb, 0, none⟩)) ∧ Hid (w.heap.size ≤ tb) ∧ Hid (TD Z w' tb db wb sa cap (openT d.words) d) ∧ Hid (w.grownBy w' none) := by
  have HD0 := Lib.hid h
  have HZ := Lib.hid hZ
  have hsm := h.small
  clear h hZ
  obtain ⟨OT, hOT⟩ : ∃ OT, openT d.words = OT := ⟨_, rfl⟩
  have HOT := Lib.hid hOT
  rw [hOT]
  clear hOT
  obtain ⟨ln, hln⟩ : ∃ ln, d.words.length = ln := ⟨_, rfl⟩
  have HLN := Lib.hid hln
  rw [hln] at hsm
  clear hln
  have ms := m_size ⟨db, 0, none⟩
  have mg := m_get ⟨db, 0, none⟩
  obtain ⟨sb, hsb⟩ : ∃ sb, w.heap.size = sb := ⟨_, rfl⟩
  have HSB := Lib.hid hsb
  clear hsb
  obtain ⟨tb, htb⟩ : ∃ tb, sb + 1 = tb := ⟨_, rfl⟩
  have HTB := Lib.hid htb
  clear htb
  have HDB : Hid (db < sb ∧ wb < sb) := ⟨by rw [← HSB.out]; exact lt_of HD0.out.st, by rw [← HSB.out]; exact HD0.out.lt⟩
  go_enter Try.func14, Try.ntmps14
  go_wp2_with fail
  simp only [HSB.out, HTB.out]
  obtain ⟨wA, hwA⟩ : ∃ wA, (w.alloc (.cells #[.slice none 0 0] 77)).alloc (.cells #[.iface 50 (.pointer (some ⟨db, 0, none⟩)), .slice (some ⟨sb, 0, none⟩) 1 1, .int .i64 0, .int .i64 0, .bool false] 70) = wA := ⟨_, rfl⟩
  have HGA : Hid (w.grownBy wA none) := by unfold Hid; rw [← hwA]; exact grown_alloc (grown_alloc (grown_refl _ _) _) _
  have HTDA : Hid (TD Z wA tb db wb sa cap ⟨ver0, 0, false⟩ d) := by
    have hz : (w.alloc (.cells #[.slice none 0 0] 77)).heap.size = tb := by rw [← HTB.out, ← HSB.out]; simp
    have h1 : wA.heap[tb]? = some (.cells #[.iface 50 (.pointer (some ⟨db, 0, none⟩)), .slice (some ⟨sb, 0, none⟩) 1 1, .int .i64 0, .int .i64 0, .bool false] 70 (0, 0)) := by rw [← hwA, ← hz]; exact heap_alloc_new _ _
    have h2 : wA.heap[sb]? = some (.cells #[.slice none 0 0] 77 (0, 0)) := by
      rw [← hwA]
      exact row_kept (grown_alloc (grown_refl (w.alloc (.cells #[.slice none 0 0] 77)) none) _) (by rw [← HSB.out]; exact heap_alloc_new _ _) (by simp)
    have ht := HTB.out
    have hd := HDB.out
    unfold Hid at ht hd
    refine ⟨⟨⟨_, h1, sb, 1, [.slice none 0 0], rfl, Nat.le_refl _, ?_, rfl, fun i u hu => ?_, fun i u l hu hl => ?_⟩, ⟨good0, by decide⟩⟩, HD0.out.grown HGA.out, ⟨by omega, by omega⟩, lt_of h1, fun b hb => Nat.lt_of_lt_of_le (HZ.out b hb) HGA.out.size⟩
    · refine ⟨fun hx => ?_, fun hx => ?_⟩
      · rcases hx with hx | hx | hx <;> omega
      · have := HZ.out _ hx
        have hs := HSB.out
        unfold Hid at hs
        omega
    · rw [cell_of h2 i, ← Array.getElem?_toList]
      exact hu
    · match i, hu, hl with
      | 0, hu, hl =>
        simp [ver0] at hu hl
        subst hu
        subst hl
        exact .inr ⟨none, 0, rfl, rfl⟩
      | i + 1, hu, hl => simp at hu
  simp only [hwA]
  clear hwA
  have HO0 : Hid (OT = ⟨(openFrom d.words 1024 0 ver0).1, (openFrom d.words 1024 0 ver0).2, false⟩) := HOT.out.symm
  go_loopw [4] (fun v4 wr => ∃ (k : Nat) (s : Ver), k ≤ 1024 ∧ v4 = .int .i64 ((k : Int) * 8) ∧ Hid (OT = ⟨(openFrom d.words (1024 - k) k s).1, (openFrom d.words (1024 - k) k s).2, false⟩) ∧ Hid (TD Z wr tb db wb sa cap ⟨s, k, false⟩ d) ∧ Hid (w.grownBy wr none)) (fun v4 _ => 9000 - (intOf v4).toNat)
  case atStart => exact ⟨0, ver0, by decide, rfl, HO0.out, HTDA.out, HGA.out⟩
  case round =>
    obtain ⟨k, s, hk, rfl, HO, HTD, HG⟩ := hrel
    obtain ⟨wz, hwz⟩ : ∃ wz : World, wz = wr := ⟨_, rfl⟩
    subst hwz
    clear HO0 HTDA HGA HD0
    obtain ⟨vsl, hst, hvs⟩ := HTD.out.t.ex
    simp only at hst hvs
    have HST := Lib.hid hst
    have HVS := Lib.hid hvs
    have SZ := Lib.hid (size_calls db wb cap sa d wz HTD.out.d)
    rw [HLN.out] at SZ
    clear hst hvs
    have hk2 : (k : Int) ≤ 1024 := by omega
    have hw8 : IntKind.i64.wrap ((k : Int) * 8 + 8) = (k : Int) * 8 + 8 := IntWalk.i64_in _ (by omega)
    by_cases hroom : ln < k * 8 + 8
    · have HF : Hid (OT = ⟨s, k, false⟩) := by
        unfold Hid
        rw [HO.out, open_stop (by rw [HLN.out]; omega)]
      have hr2 : (ln : Int) < (k : Int) * 8 + 8 := by omega
      have hr3 : decide ((k : Int) * 8 + 8 ≤ (ln : Int)) = false := decide_eq_false (by omega)
      go_wp2_with (go_at_call 58; refine (SZ.out).mono ?_; rintro ez w5 ⟨rfl, hg5⟩)
      go_ret
      exact ⟨tb, rfl, by have := HTB.out; unfold Hid at *; omega, by rw [HF.out]; exact HTD.out.grown hg5.out, grown_trans HG.out hg5.out⟩
    have hr2 : (k : Int) * 8 + 8 ≤ (ln : Int) := by omega
    have hr3 : decide ((k : Int) * 8 + 8 ≤ (ln : Int)) = true := decide_eq_true hr2
    by_cases hk1 : k = 1024
    · have HF : Hid (OT = ⟨s, k, false⟩) := by
        unfold Hid
        rw [HO.out, open_stop (by omega)]
      have hk3 : (k : Int) = 1024 := by omega
      subst hk1
      go_wp2_with (go_at_call 58; refine (SZ.out).mono ?_; rintro ez w5 ⟨rfl, hg5⟩; have p3 := cell_of (row_kept hg5.out HST.out (by simp)) 3)
      go_ret
      exact ⟨tb, rfl, by have := HTB.out; unfold Hid at *; omega, by rw [HF.out]; exact HTD.out.grown hg5.out, grown_trans HG.out hg5.out⟩
    have hk3 : (k : Int) < 1024 := by omega
    have hk4 : decide ((k : Int) < 1024) = true := decide_eq_true hk3
    go_upto_region 5 with (go_at_call 58; refine (SZ.out).mono ?_; rintro ez w5 ⟨rfl, hg5⟩; have p3 := cell_of (row_kept hg5.out HST.out (by simp)) 3)
    obtain ⟨w5, rfl⟩ : ∃ w5' : World, w5' = w5 := ⟨_, rfl⟩
    have HG5 : Hid (w.grownBy w5 none) := grown_trans HG.out hg5.out
    have HTD5 := Lib.hid (HTD.out.grown hg5.out)
    have HST5 := Lib.hid (row_kept hg5.out HST.out (by simp))
    have HVS5 := Lib.hid (HVS.out.grown hg5.out)
    clear p3 hg5 SZ HST HVS HTD HG
    obtain ⟨lb, hlb⟩ : ∃ lb, w5.heap.size = lb := ⟨_, rfl⟩
    have HLB := Lib.hid hlb
    clear hlb
    go_upto_region 7 with fail
    simp only [HLB.out]
    obtain ⟨w6, hw6⟩ : ∃ w6, w5.alloc (.cells #[.int .i64 0, .int .i64 0, .int .i64 0, .int .i64 0, .int .i64 0, .int .i64 0, .int .i64 0, .int .i64 0] 72) = w6 := ⟨_, rfl⟩
    have HG56 : Hid (w5.grownBy w6 none) := by unfold Hid; rw [← hw6]; exact grown_alloc (grown_refl _ _) _
    have HRL : Hid (∃ cur : Array Value, w6.heap[lb]? = some (.cells cur 72 (0, 0)) ∧ cur.size = 8 ∧ ∀ j, j < 0 → cur[j]? = some (.int .i64 (d.words.getD (k * 8 + j) 0))) := ⟨_, by rw [← hw6, ← HLB.out]; exact heap_alloc_new _ _, rfl, fun j hj => by omega⟩
    simp only [hw6]
    clear hw6
    have hkr : k * 8 + 8 ≤ ln := by omega
    go_loopw [29] (fun v29 wr => ∃ i : Nat, i ≤ 8 ∧ v29 = .int .i64 (i : Int) ∧ Hid (∃ cur : Array Value, wr.heap[lb]? = some (.cells cur 72 (0, 0)) ∧ cur.size = 8 ∧ ∀ j, j < i → cur[j]? = some (.int .i64 (d.words.getD (k * 8 + j) 0))) ∧ Hid (w5.grownBy wr none)) (fun v29 _ => 8 - (intOf v29).toNat)
    case atStart => exact ⟨0, by decide, rfl, HRL.out, HG56.out⟩
    case round =>
      obtain ⟨i, hi8, rfl, HR, HGR⟩ := hrel
      obtain ⟨wi, hwi⟩ : ∃ wi : World, wi = wr := ⟨_, rfl⟩
      subst hwi
      by_cases hi9 : i = 8
      · subst hi9
        obtain ⟨cur, hcl, hcs, hcv⟩ := HR.out
        rw [arr8 (f := fun j => .int .i64 (d.words.getD (k * 8 + j) 0)) hcs hcv] at hcl
        obtain ⟨x0, hx0⟩ : ∃ x0, d.words.getD (k * 8 + 0) 0 = x0 := ⟨_, rfl⟩
        have HX0 := Lib.hid hx0
        obtain ⟨e2, he2⟩ : ∃ e2, edAt d.words (k * 8) = e2 := ⟨_, rfl⟩
        have HE2 := Lib.hid he2
        have hcl2 : wi.heap[lb]? = some (.cells #[.int .i64 x0, .int .i64 e2.do_, .int .i64 e2.n, .int .i64 e2.t.at_, .int .i64 e2.t.long, .int .i64 e2.t.lt, .int .i64 e2.t.al, .int .i64 e2.t.oc] 72 (0, 0)) := by
          rw [hcl, ← hx0, ← he2]
          rfl
        have HCL := Lib.hid hcl2
        clear hcl hcs hcv hx0 he2 HR HRL HG56
        have a0 := cell_of hcl2 0
        have a1 := cell_of hcl2 1
        have a2 := cell_of hcl2 2
        have a3 := cell_of hcl2 3
        have a4 := cell_of hcl2 4
        have a5 := cell_of hcl2 5
        have a6 := cell_of hcl2 6
        have a7 := cell_of hcl2 7
        clear hcl2
        obtain ⟨eb, heb⟩ : ∃ eb, wi.heap.size = eb := ⟨_, rfl⟩
        have HEB := Lib.hid heb
        clear heb
        go_upto_region 12 with fail
        simp only [HEB.out]
        obtain ⟨w7, hw7⟩ : ∃ w7, wi.alloc (.cells #[.int .i64 e2.do_, .int .i64 e2.n, .int .i64 e2.t.at_, .int .i64 e2.t.long, .int .i64 e2.t.lt, .int .i64 e2.t.al, .int .i64 e2.t.oc] 40) = w7 := ⟨_, rfl⟩
        have HG7 : Hid (w5.grownBy w7 none) := by unfold Hid; rw [← hw7]; exact grown_alloc HGR.out _
        have HGI7 : Hid (wi.grownBy w7 none) := by unfold Hid; rw [← hw7]; exact grown_alloc (grown_refl _ _) _
        have HE7 : Hid (w7.heap[eb]? = some (.cells #[.int .i64 e2.do_, .int .i64 e2.n, .int .i64 e2.t.at_, .int .i64 e2.t.long, .int .i64 e2.t.lt, .int .i64 e2.t.al, .int .i64 e2.t.oc] 40 (0, 0))) := by unfold Hid; rw [← hw7, ← HEB.out]; exact heap_alloc_new _ _
        simp only [hw7]
        clear hw7 a0 a1 a2 a3 a4 a5 a6 a7
        have b0 := cell_of HE7.out 0
        have b1 := cell_of HE7.out 1
        have b2 := cell_of HE7.out 2
        have b3 := cell_of HE7.out 3
        have b4 := cell_of HE7.out 4
        have b5 := cell_of HE7.out 5
        have b6 := cell_of HE7.out 6
        have NC := Lib.hid (next_calls tb _ _ _ vsl (AZ Z tb db wb) s k e2 w7 (row_kept HG7.out HST5.out (by simp)) (HVS5.out.grown HG7.out) HTD5.out.t.good.s hk (fun b hb => ⟨fun hx => by
          have h1 := HTD5.out.lt
          have h2 := lt_of HTD5.out.d.st
          have h3 := HTD5.out.d.lt
          have h4 := HG7.out.size
          rcases hx with rfl | rfl | rfl <;> omega, fun hx => by
          have h1 := HTD5.out.hz b hx
          have h4 := HG7.out.size
          omega⟩))
        obtain ⟨E, hE⟩ : ∃ E, errE s e2 = E := ⟨_, rfl⟩
        have HE := Lib.hid hE
        rw [hE] at NC
        clear hE
        go_upto_region 13 with (go_at_call 24; refine (NC.out).mono ?_; rintro ez w8 ⟨ao8, n8, c8, k8, rfl, hv8, hg8⟩)
        obtain ⟨w8, rfl⟩ : ∃ w8' : World, w8' = w8 := ⟨_, rfl⟩
        have HG8 : Hid (w5.grownBy w8 none) := grown_trans HG7.out hg8.out
        have HL8 : Hid (w8.heap[lb]? = some (.cells #[.int .i64 x0, .int .i64 e2.do_, .int .i64 e2.n, .int .i64 e2.t.at_, .int .i64 e2.t.long, .int .i64 e2.t.lt, .int .i64 e2.t.al, .int .i64 e2.t.oc] 72 (0, 0))) := row_kept (grown_trans HGI7.out hg8.out) HCL.out (by simp)
        have HE8 : Hid (w8.heap[eb]? = some (.cells #[.int .i64 e2.do_, .int .i64 e2.n, .int .i64 e2.t.at_, .int .i64 e2.t.long, .int .i64 e2.t.lt, .int .i64 e2.t.al, .int .i64 e2.t.oc] 40 (0, 0))) := row_kept hg8.out HE7.out (by simp)
        clear b0 b1 b2 b3 b4 b5 b6 hg8 HCL HE7 NC HG7 HGI7
        have hgd : goodAt d.words s (k * 8) = (decide (x0 = 1) && decide (e2 = plainE e2) && decide (E = 0)) := by
          unfold goodAt
          rw [HE2.out, HE.out, ← HX0.out]
          rfl
        by_cases hx1 : x0 = 1
        rotate_left
        · have HF : Hid (OT = ⟨s, k, false⟩) := by
            unfold Hid
            rw [HO.out, open_stop (by rw [hgd]; simp [hx1])]
          have a0 := cell_of HL8.out 0
          clear hgd
          go_quiet (fail)
          go_wp2_with fail
          go_ret
          exact ⟨tb, rfl, by have := HTB.out; unfold Hid at *; omega, by rw [HF.out]; exact HTD5.out.grown (grown_drewN HG8.out _), grown_drewN (grown_trans HG5.out HG8.out) _⟩
        subst hx1
        have HGD2 := Lib.hid hgd
        have HPC := Lib.hid (fun w' => plain_calls e2 w')
        obtain ⟨e3, he3⟩ : ∃ e3, plainE e2 = e3 := ⟨_, rfl⟩
        have HE3 := Lib.hid he3
        rw [he3] at HPC HGD2
        clear hgd he3
        have hne := Mixed.Later.nonempty w8
        have a0 : ∀ n2 : Mixed.Later w8, n2.w.cell? ⟨lb, 0, none⟩ = some (.int .i64 1) := Mixed.Later.cell (cell_of HL8.out 0)
        have b0 : ∀ n2 : Mixed.Later w8, n2.w.cell? ⟨eb, 0, none⟩ = some (.int .i64 e2.do_) := Mixed.Later.cell (cell_of HE8.out 0)
        have b1 : ∀ n2 : Mixed.Later w8, n2.w.cell? ⟨eb, 1, none⟩ = some (.int .i64 e2.n) := Mixed.Later.cell (cell_of HE8.out 1)
        have b2 : ∀ n2 : Mixed.Later w8, n2.w.cell? ⟨eb, 2, none⟩ = some (.int .i64 e2.t.at_) := Mixed.Later.cell (cell_of HE8.out 2)
        have b3 : ∀ n2 : Mixed.Later w8, n2.w.cell? ⟨eb, 3, none⟩ = some (.int .i64 e2.t.long) := Mixed.Later.cell (cell_of HE8.out 3)
        have b4 : ∀ n2 : Mixed.Later w8, n2.w.cell? ⟨eb, 4, none⟩ = some (.int .i64 e2.t.lt) := Mixed.Later.cell (cell_of HE8.out 4)
        have b5 : ∀ n2 : Mixed.Later w8, n2.w.cell? ⟨eb, 5, none⟩ = some (.int .i64 e2.t.al) := Mixed.Later.cell (cell_of HE8.out 5)
        have b6 : ∀ n2 : Mixed.Later w8, n2.w.cell? ⟨eb, 6, none⟩ = some (.int .i64 e2.t.oc) := Mixed.Later.cell (cell_of HE8.out 6)
        refine Mixed.wp_region_mixed (Mixed.late w8) (fun k => k == 6) (by kernel_rfl) (by kernel_rfl) (Mixed.late_of (grown_drew (grown_refl _ _))) ?_
        unfold Mixed.late
        refine Mixed.wpM_quiet rfl rfl rfl ?_; intro Kx hKx; go_big_quiet_op; go_big_quiet_on
        refine Mixed.wpM_quiet rfl rfl rfl ?_; intro Kx hKx; go_big_quiet_op; go_big_quiet_on
        refine Mixed.wpM_quiet rfl rfl rfl ?_; intro Kx hKx; go_big_quiet_op; go_big_quiet_on
        refine Mixed.wpM_quiet rfl rfl rfl ?_; intro Kx hKx; go_big_quiet_op; go_big_quiet_on
        refine Mixed.wpM_quiet rfl rfl rfl ?_; intro Kx hKx; go_big_quiet_op; go_big_quiet_on
        refine Mixed.wpM_quiet rfl rfl rfl ?_; intro Kx hKx; go_big_quiet_op; go_big_quiet_on
        refine Mixed.wpM_call rfl rfl 25 _ (by go_simp; rfl) ?_
        refine (HPC.out _).mono ?_
        rintro ez w9 ⟨rfl, hg9⟩
        have HG9 : Hid (w8.grownBy w9 none) := grown_trans (grown_drew (grown_refl _ _)) hg9.out
        refine ⟨_, rfl, ⟨⟨w9, HG9.out⟩, rfl⟩, ?_⟩
        clear hg9
        go_simp
        have q40 := neq40 e2 e3
        have g40 := guard40
        obtain ⟨EB, hEB⟩ : ∃ EB, decide (e2 = e3) = EB := ⟨_, rfl⟩
        simp only [hEB] at q40 HGD2
        have hT := HTB.out
        have hgt : Hid (w.heap.size ≤ tb) := by unfold Hid at *; omega
        clear hEB hT
        cases EB with
        | false =>
          have HF : Hid (OT = ⟨s, k, false⟩) := by
            unfold Hid
            rw [HO.out, open_stop (by rw [HGD2.out]; simp)]
          simp only [Bool.not_false] at q40
          refine Mixed.wpM_quiet rfl rfl rfl ?_; intro Kx hKx; go_big_quiet_op; go_big_quiet_on
          refine Mixed.wpM_quiet rfl rfl rfl ?_; intro Kx hKx; go_big_quiet_op; go_big_quiet_on
          refine Mixed.wpM_quiet rfl rfl rfl ?_; intro Kx hKx; go_big_quiet_op; go_big_quiet_on
          refine Mixed.wpM_skip rfl ?_; go_simp
          refine Mixed.wpM_skip rfl ?_; go_simp
          refine Mixed.wpM_quiet rfl rfl rfl ?_; intro Kx hKx; go_big_quiet_op; go_big_quiet_on
          refine Mixed.wpM_nil ?_
          intro nx hnx
          clear nx hnx a0 b0 b1 b2 b3 b4 b5 b6 hne q40 g40
          go_wp2_with fail
          go_ret
          exact ⟨tb, rfl, hgt.out, by rw [HF.out]; exact HTD5.out.grown (grown_trans HG8.out HG9.out), grown_trans HG5.out (grown_trans HG8.out HG9.out)⟩
        | true =>
          simp only [Bool.not_true] at q40
          by_cases hE0 : E = 0
          rotate_left
          · have HF : Hid (OT = ⟨s, k, false⟩) := by
              unfold Hid
              rw [HO.out, open_stop (by rw [HGD2.out]; simp [hE0])]
            refine Mixed.wpM_quiet rfl rfl rfl ?_; intro Kx hKx; go_big_quiet_op; go_big_quiet_on
            refine Mixed.wpM_quiet rfl rfl rfl ?_; intro Kx hKx; go_big_quiet_op; go_big_quiet_on
            refine Mixed.wpM_quiet rfl rfl rfl ?_; intro Kx hKx; go_big_quiet_op; go_big_quiet_on
            refine Mixed.wpM_quiet rfl rfl rfl ?_; intro Kx hKx; go_big_quiet_op; go_big_quiet_on
            refine Mixed.wpM_quiet rfl rfl rfl ?_; intro Kx hKx; go_big_quiet_op; go_big_quiet_on
            refine Mixed.wpM_quiet rfl rfl rfl ?_; intro Kx hKx; go_big_quiet_op; go_big_quiet_on
            refine Mixed.wpM_nil ?_
            intro nx hnx
            clear nx hnx a0 b0 b1 b2 b3 b4 b5 b6 hne q40 g40
            go_wp2_with fail
            go_ret
            exact ⟨tb, rfl, hgt.out, by rw [HF.out]; exact HTD5.out.grown (grown_trans HG8.out HG9.out), grown_trans HG5.out (grown_trans HG8.out HG9.out)⟩
          subst hE0
          refine Mixed.wpM_quiet rfl rfl rfl ?_; intro Kx hKx; go_big_quiet_op; go_big_quiet_on
          refine Mixed.wpM_quiet rfl rfl rfl ?_; intro Kx hKx; go_big_quiet_op; go_big_quiet_on
          refine Mixed.wpM_quiet rfl rfl rfl ?_; intro Kx hKx; go_big_quiet_op; go_big_quiet_on
          refine Mixed.wpM_quiet rfl rfl rfl ?_; intro Kx hKx; go_big_quiet_op; go_big_quiet_on
          refine Mixed.wpM_quiet rfl rfl rfl ?_; intro Kx hKx; go_big_quiet_op; go_big_quiet_on
          refine Mixed.wpM_quiet rfl rfl rfl ?_; intro Kx hKx; go_big_quiet_op; go_big_quiet_on
          refine Mixed.wpM_nil ?_
          intro nx hnx
          clear nx hnx a0 b0 b1 b2 b3 b4 b5 b6 hne q40 g40
          have HGN : Hid (w5.grownBy w9 none) := grown_trans HG8.out HG9.out
          have HVN := Lib.hid (((hv8.out rfl).2).grown HG9.out)
          have HKN := Lib.hid ((hv8.out rfl).1)
          have hst9 := row_kept HGN.out HST5.out (by simp)
          have HST9 := Lib.hid hst9
          have t1 := cell_of hst9 1
          have t2 := cell_of hst9 2
          have t3 := cell_of hst9 3
          have z1 := free_of hst9 1
          have z2 := free_of hst9 2
          have z3 := free_of hst9 3
          have hwe : IntKind.i64.wrap ((k : Int) + 1) = (k : Int) + 1 := IntWalk.i64_in _ (by omega)
          clear hst9 hv8
          go_wp2_with fail
          refine ⟨?_, by simp [intOf]; omega⟩
          have hgs : w.grownBy (((w9.setCell ⟨tb, 1, none⟩ (.slice ao8 n8 c8)).setCell ⟨tb, 2, none⟩ (.int .i64 k8)).setCell ⟨tb, 3, none⟩ (.int .i64 ((k : Int) + 1))) none := grown_set (grown_set (grown_set (grown_trans HG5.out HGN.out) (.inr hgt.out) _) (.inr hgt.out) _) (.inr hgt.out) _
          have htd : TD Z (((w9.setCell ⟨tb, 1, none⟩ (.slice ao8 n8 c8)).setCell ⟨tb, 2, none⟩ (.int .i64 k8)).setCell ⟨tb, 3, none⟩ (.int .i64 ((k : Int) + 1))) tb db wb sa cap ⟨nextE s e2, k + 1, false⟩ d := by
            rw [HKN.out]
            exact td_next (w6 := w9) HTD5.out ⟨next_good HTD5.out.t.good.s HE.out, by simp only; omega⟩ HVN.out (Fr.refl _ _) (.none HGN.out) HST9.out (HTD5.out.d.grown HGN.out)
          have hop : OT = ⟨(openFrom d.words (1024 - (k + 1)) (k + 1) (nextE s e2)).1, (openFrom d.words (1024 - (k + 1)) (k + 1) (nextE s e2)).2, false⟩ := by
            rw [HO.out, open_step (by rw [HLN.out]; exact hkr) (by omega) (by rw [HGD2.out]; rfl), HE2.out]
          first
            | exact ⟨k + 1, nextE s e2, by omega, by simp; omega, hop, htd, hgs⟩
            | (repeat apply Exists.intro
               refine ⟨?_, rfl⟩
               exact ⟨k + 1, nextE s e2, by omega, by simp; omega, hop, htd, hgs⟩)
      · have hi9i : (i : Int) < 8 := by omega
        have hi9n : i < 8 := by omega
        have hwi : IntKind.i64.wrap ((i : Int) + 1) = (i : Int) + 1 := IntWalk.i64_in _ (by omega)
        have hwk : IntKind.i64.wrap ((k : Int) * 8 + (i : Int)) = (k : Int) * 8 + (i : Int) := IntWalk.i64_in _ (by omega)
        have GT := Lib.hid (get_at db wb cap sa d (k * 8 + i) ((k : Int) * 8 + (i : Int)) wi (HTD5.out.d.grown HGR.out) (by rw [HLN.out]; omega) (by omega))
        obtain ⟨cur, hcl, hcs, hcv⟩ := HR.out
        have HCL := Lib.hid hcl
        have HCV := Lib.hid hcv
        obtain ⟨y, hy⟩ : ∃ y, cur[i]? = some y := ⟨cur[i]'(by omega), Array.getElem?_eq_getElem _⟩
        have HY := Lib.hid hy
        clear hcl hcv hy HRL HG56 HR
        go_wp2_with (go_at_call 56; refine (GT.out).mono ?_; rintro ez w9 ⟨rfl, hg9⟩; have hr9 := row_kept hg9.out HCL.out (by simp); have y9 := (cell_of hr9 i).trans HY.out; have z9 := free_of hr9 i)
        refine ⟨?_, by simp [intOf]; omega⟩
        have hgs : w5.grownBy (w9.setCell ⟨lb, i, none⟩ (.int .i64 (d.words.getD (k * 8 + i) 0))) none := grown_set (grown_trans HGR.out hg9.out) (.inr (by show w5.heap.size ≤ lb; rw [HLB.out]; exact Nat.le_refl _)) _
        have hrow : ∃ cur : Array Value, (w9.setCell ⟨lb, i, none⟩ (.int .i64 (d.words.getD (k * 8 + i) 0))).heap[lb]? = some (.cells cur 72 (0, 0)) ∧ cur.size = 8 ∧ ∀ j, j < i + 1 → cur[j]? = some (.int .i64 (d.words.getD (k * 8 + j) 0)) := by
          refine ⟨_, set_self hr9 _, by rw [Array.size_setIfInBounds]; exact hcs, fun j hj => ?_⟩
          by_cases hji : j = i
          · subst hji
            exact Array.getElem?_setIfInBounds_self_of_lt (by omega)
          · rw [Array.getElem?_setIfInBounds_ne (by omega)]
            exact HCV.out j (by omega)
        first
          | exact ⟨i + 1, by omega, rfl, hrow, hgs⟩
          | (repeat apply Exists.intro
             refine ⟨?_, rfl⟩
             exact ⟨i + 1, by omega, rfl, hrow, hgs⟩)
end Go.Proofs.Ytdnmimfichijgaa.KOpen
