/- A voice: Render. -/
import Derived.Test.YtadaegnkclleaaaVLevel
import Derived.Deep.RegionWith
import Derived.Test.YtadaegnkclleaaaFw
namespace Go.Proofs.Ytadaegnkclleaaa.VRender
open Go Ieee Go.RowKit Go.Proofs.Ytadaegnkclleaaa.Rnd Go.Proofs.Ytadaegnkclleaaa.Flo Go.Proofs.Ytadaegnkclleaaa.Flc Go.Proofs.Ytadaegnkclleaaa.VShape Go.Proofs.Ytadaegnkclleaaa.VMod Go.Proofs.Ytadaegnkclleaaa.VWalk Go.Proofs.Ytadaegnkclleaaa.VLevel Go.Proofs.Ytadaegnkclleaaa.Hp Go.Proofs.Ytadaegnkclleaaa.Rd
set_option linter.unusedVariables false

theorem info23 : (Try.prog.info? 23).map (fun i => (i.zero, i.size, i.bytes)) = some (some (.float .f64 0), 1, 8) := by kernel_rfl

/-- The samples that are made so far. -/
def Out (w : World) (go n k : Nat) (p : Pt) (s : St) : Prop := ∃ C : Array Value, w.heap[go]? = some (.cells C 23 (0, 0)) ∧ C.size = n ∧ ∀ i, i < n → C[i]? = some (.float .f64 (if i < k then smp p (after p i s) else 0))

theorem Out.keep {w w' : World} {go n k : Nat} {p : Pt} {s : St} (h : Out w go n k p s) (hh : w'.heap[go]? = w.heap[go]?) : Out w' go n k p s := by
  obtain ⟨C, h1, h2⟩ := h
  exact ⟨C, by rw [hh]; exact h1, h2⟩

theorem Out.set {w : World} {go n k : Nat} {p : Pt} {s : St} (h : Out w go n k p s) (hk : k < n) : Out (w.setCell ⟨go, k, none⟩ (.float .f64 (smp p (after p k s)))) go n (k + 1) p s := by
  obtain ⟨C, h1, h2, h3⟩ := h
  refine ⟨_, set_self h1 _, by simp [h2], fun i hi => ?_⟩
  rw [Array.getElem?_setIfInBounds]
  by_cases hik : k = i
  · subst hik; simp [h2, hi]
  · rw [if_neg hik, h3 i hi]
    by_cases h4 : i < k
    · rw [if_pos h4, if_pos (by omega)]
    · rw [if_neg h4, if_neg (by omega)]

theorem Out.at {w : World} {go n k : Nat} {p : Pt} {s : St} (h : Out w go n k p s) {i : Nat} (hi : i < n) : (∃ v, w.cell? ⟨go, i, none⟩ = some v) ∧ w.frozen? ⟨go, i, none⟩ = false := by
  obtain ⟨C, h1, _, h3⟩ := h
  exact ⟨⟨_, by rw [cell_of h1]; exact h3 i hi⟩, free_of h1 i⟩

theorem Out.fls {w : World} {go n : Nat} {p : Pt} {s : St} (h : Out w go n n p s) : Own 23 w (.slice (some ⟨go, 0, none⟩) n n) ((play p n s).1.map (Value.float .f64)) := by
  obtain ⟨C, h1, h2, h3⟩ := h
  refine ⟨go, by simp [play_len], ?_⟩
  rw [h1]
  congr 2
  apply Array.ext'
  apply List.ext_getElem?
  intro i
  rw [Array.getElem?_toList]
  by_cases hi : i < n
  · rw [h3 i hi, if_pos hi]
    simp [play_get p n s i hi]
  · rw [Array.getElem?_eq_none (by omega), List.getElem?_eq_none (by simp [play_len]; omega)]

theorem to_quiet {f : FuncId} {args : Array Value} {w : World} {n : Nat} {v : Value} (h : Calls Try.prog f args (w.drewN n) fun e w' => e = .returned v ∧ w.drewN n = w') : Calls Try.prog f args (w.drewN n) fun e w'' => e = .returned v ∧ ∃ m, w'' = w.drewN m :=
  Calls.quiet_of_same (h.mono fun _ _ ⟨h1, h2⟩ => ⟨h1, h2.symm⟩)

theorem vat7 {w : World} {g : Nat} {p : Pt} {s : St} (h : VAt w g p s) (x : Nat) : VAt (w.setCell ⟨g, 7, none⟩ (.int .u32 x)) g p ⟨x, s.time, s.off, s.from_⟩ := set_self h _
theorem vat8 {w : World} {g : Nat} {p : Pt} {s : St} (h : VAt w g p s) (x : Int) : VAt (w.setCell ⟨g, 8, none⟩ (.int .i64 x)) g p ⟨s.phase, x, s.off, s.from_⟩ := set_self h _
theorem vat9 {w : World} {g : Nat} {p : Pt} {s : St} (h : VAt w g p s) (x : Int) : VAt (w.setCell ⟨g, 9, none⟩ (.int .i64 x)) g p ⟨s.phase, s.time, x, s.from_⟩ := set_self h _

def RenderPost (g : Nat) (p : Pt) (s : St) (n : Nat) (w : World) (e : Ending) (w' : World) : Prop :=
  ∃ v, e = .returned (.tuple #[v, .int .i64 0]) ∧ Hid (Own 23 w' v ((play p n s).1.map (Value.float .f64))) ∧ Hid (VAt w' g p (after p n s)) ∧ Hid (w.grownBy w' (some g)) ∧ Hid (∀ b, v.ownBlock = some b → w.heap.size ≤ b)

set_option maxHeartbeats 4000000 in
set_option maxRecDepth 100000 in
theorem render_calls (g : Nat) (p : Pt) (s : St) (n : Nat) (w : World) (hv : VAt w g p s) (hp : OkP p) (hs : OkS s) (hst : p.step < 4294967296) (hn : n ≤ 65536) :
    Calls Try.prog 24 #[.pointer (some ⟨g, 0, none⟩), .int .i64 n] w fun e w' => RenderPost g p s n w e w' := by
  obtain ⟨i0, hi, hz0, hz1, hz2⟩ := info_parts info23
  have hglt := lt_of hv
  have HV := Lib.hid hv
  have HP := Lib.hid hp
  have HS := Lib.hid hs
  clear hv hp hs
  go_enter Try.func24, Try.ntmps24
  go_upto_region 4 with (at_make; refine wpList_make_full _ rfl _ _ 40 rfl w.heap.size 23 i0 (.float .f64 0) 1 Try.underlying40 hi hz0 hz1 _ _ _ _ n rfl rfl rfl rfl (by rw [hz2]; omega) (by unfold maxLen; omega) (Nat.le_refl _) ?_; intro w1 hown hg1)
  rw [show (madeCells (Value.float FloatKind.f64 0).cells (n * 1)).toList = List.replicate n (Value.float .f64 0) from by rw [Nat.mul_one]; exact madeCells_one _ _] at hown
  have hnew := new_of_made hown
  obtain ⟨go, hgo⟩ : ∃ go, w.heap.size = go := ⟨_, rfl⟩
  have HO1 : Hid (Out w1 go n 0 p s) := ⟨_, by rw [← hgo]; exact hnew, by simp, fun i hi => by rw [List.getElem?_toArray, List.getElem?_replicate, if_pos hi, if_neg (by omega)]⟩
  have HV1 : Hid (VAt w1 g p s) := (hg1.block g hglt (by simp)).trans HV.out
  have HG1 : Hid (w.grownBy w1 (some g)) := grown_none hg1 _
  have HGO := Lib.hid hgo
  have HNB : Hid (∀ b, (Value.slice (some ⟨go, 0, none⟩) n n).ownBlock = some b → w.heap.size ≤ b) := fun b hb => by
    have : go = b := by simpa [Value.ownBlock] using hb
    omega
  rw [hgo] at hglt
  simp only [hgo]
  clear hown hg1 hnew hi hz0 hz1 hz2 HV hgo
  go_wp2_with fail
  go_loopw [20] (fun i wr => ∃ k : Nat, k ≤ n ∧ i = .int .i64 k ∧ Hid (Out wr go n k p s) ∧ Hid (VAt wr g p (after p k s)) ∧ Hid (w.grownBy wr (some g))) (fun i _ => n - (intOf i).toNat)
  case atStart => exact ⟨0, Nat.zero_le _, rfl, HO1, HV1, HG1⟩
  case round =>
    clear HO1 HV1 HG1
    obtain ⟨k, hk, rfl, HO, HV, HG⟩ := hrel
    by_cases hlt : k < n
    · have hsk := after_ok (p := p) HS.out k
      obtain ⟨y, q, z, m1, m2, m3, m4, _⟩ := smp_some HP.out hsk
      have HZ := Lib.hid m4
      have HSK := Lib.hid hsk
      have hnx := after_succ p k s
      have HNX := Lib.hid hnx
      obtain ⟨t, ht⟩ : ∃ t, after p k s = t := ⟨_, rfl⟩
      rw [ht] at HV HSK HNX m1 m2
      have hphase := HSK.out.phase
      have hsc := fun w => shape_calls p.shape t.phase w hphase
      obtain ⟨xw, hxw⟩ : ∃ x, shapeW p.shape t.phase = x := ⟨_, rfl⟩
      obtain ⟨xe, hxe⟩ : ∃ x, shapeE p.shape = x := ⟨_, rfl⟩
      rw [hxw] at m1
      simp only [hxw, hxe] at hsc
      have HSC := Lib.hid hsc
      obtain ⟨L, hL⟩ : ∃ L, levelZ p t = L := ⟨_, rfl⟩
      have hlv := fun w (h : VAt w g p t) => level_calls g p t w h HP.out HSK.out
      simp only [hL] at hlv
      have HLV := Lib.hid hlv
      rw [hL] at m2
      obtain ⟨nm, hnm⟩ : ∃ nm, floatOfInt FloatKind.f64 L = nm := ⟨_, rfl⟩
      have m2' : D.div nm c20 = some q := by rw [← hnm]; exact m2
      have a1 : FloatKind.f64.format.mul p.gain xw = some y := m1
      have a2 : FloatKind.f64.format.div nm 4697254411347427328 = some q := m2'
      have a3 : FloatKind.f64.format.mul y q = some z := m3
      obtain ⟨b0, b1, b2, _, _, _, _, b7, b8, b9, b10⟩ := vat_cells HV.out
      clear m1 m2 m2' m3 m4 hsk hnx ht hphase hsc hxw hxe hL hlv
      go_upto_region 7 with fail
      go_quiet ((go_at_call 11; exact to_quiet (HSC.out _)))
      go_upto_region 8 with fail
      obtain ⟨w2, hw2⟩ : ∃ w2, wr.drewN nq = w2 := ⟨_, rfl⟩
      have HV2 : Hid (VAt w2 g p t) := hw2 ▸ HV.out
      have HO2 : Hid (Out w2 go n k p s) := hw2 ▸ HO.out
      have HG2 : Hid (w.grownBy w2 (some g)) := hw2 ▸ grown_drewN HG.out nq
      have hset2 : ∃ v, w2.cell? ⟨go, k, none⟩ = some v := (HO2.out.at hlt).1
      obtain ⟨ov, e0⟩ := hset2
      have f0 := (HO2.out.at hlt).2
      rw [hw2]
      clear hw2 b0 b1 b2 b7 b8 b9 b10 HV HO HG HSC
      obtain ⟨b0, b1, b2, _, _, _, _, b7, b8, b9, b10⟩ := vat_cells HV2.out
      go_cut [20] from 20 to 94 (fun i wx => i = .int .i64 k ∧ Hid (∃ a, wx = (w2.drew.drewN a).setCell ⟨go, k, none⟩ (.float .f64 z)))
      case first =>
        clear HZ HO2 HG2 HNX HSK HS b0 b1 b7 b8 b9 b10 hst hn hk
        have e1 : ∀ w3, (∃ a, w3 = w2.drew.drewN a) → w3.cell? ⟨go, k, none⟩ = some ov ∧ w3.frozen? ⟨go, k, none⟩ = false ∧ w3.cell? ⟨g, 2, none⟩ = some (.float .f64 p.gain) := by rintro _ ⟨a, rfl⟩; exact ⟨e0, f0, b2⟩
        have E1 := Lib.hid e1
        clear e1
        go_region_with (go_at_call 30; refine (HLV.out w2.drew HV2.out).mono ?_; rintro e w3 ⟨rfl, hx⟩; have e3 := (E1.out _ hx).1; have f3 := (E1.out _ hx).2.1; have c3 := (E1.out _ hx).2.2; have HX := Lib.hid hx; clear hx)
        all_goals
          go_wp2_with fail
          go_meet
          exact ⟨rfl, let ⟨a, ha⟩ := HX.out; ⟨a, by rw [ha]⟩⟩
      case rest =>
        obtain ⟨rfl, HWX⟩ := hcut
        have hgg : g ≠ go := by omega
        have HO4 : Hid (Out wc go n (k + 1) p s) := by
          obtain ⟨a, ha⟩ := HWX
          unfold Hid
          rw [ha]
          have h1 : Out (w2.drew.drewN a) go n k p s := HO2.out
          have h2 := h1.set hlt
          rw [HZ.out] at h2
          exact h2
        have HV4 : Hid (VAt wc g p t) := by
          obtain ⟨a, ha⟩ := HWX
          unfold Hid VAt
          rw [ha, set_other hgg]
          exact HV2.out
        have HG4 : Hid (w.grownBy wc (some g)) := by
          obtain ⟨a, ha⟩ := HWX
          unfold Hid
          rw [ha]
          exact grown_set (grown_drewN (grown_drew HG2.out) a) (.inr (by show w.heap.size ≤ go; rw [HGO.out]; exact Nat.le_refl _)) _
        obtain ⟨ph, tm, of, fr⟩ := t
        obtain ⟨c0, c1, c2, _, _, _, _, c7, c8, c9, c10⟩ := vat_cells HV4.out
        have g7 : wc.frozen? ⟨g, 7, none⟩ = false := free_of HV4.out 7
        obtain ⟨hph, ⟨ht0, ht1⟩, ⟨ho0, ho1⟩, _⟩ := HSK.out
        simp only at hph ht0 ht1 ho0 ho1 c7 c8 c9 c10
        have hwr : IntKind.u32.wrap ((ph : Int) + (p.step : Int)) = (((ph + p.step) % 4294967296 : Nat) : Int) := by
          rw [← VShape.wrap_u32]; rfl
        obtain ⟨ph2, hph2⟩ : ∃ x, (ph + p.step) % 4294967296 = x := ⟨_, rfl⟩
        rw [hph2] at hwr
        have HPH := Lib.hid hph2
        clear HWX HO2 HV2 HG2 b0 b1 b2 b7 b8 b9 b10 e0 f0 hph2 HLV
        go_upto_region 9 with fail
        go_region
        obtain ⟨w5, hw5⟩ : ∃ w5, (wc.setCell ⟨g, 7, none⟩ (.int .u32 ph2)).drew = w5 := ⟨_, rfl⟩
        have HV5 : Hid (VAt w5 g p ⟨ph2, tm, of, fr⟩) := hw5 ▸ vat7 HV4.out ph2
        have HO5 : Hid (Out w5 go n (k + 1) p s) := hw5 ▸ HO4.out.keep (set_other (by show go ≠ g; omega) _)
        have HG5 : Hid (w.grownBy w5 (some g)) := hw5 ▸ grown_drew (grown_set HG4.out (.inl rfl) _)
        rw [hw5]
        clear hw5 HV4 HO4 HG4 c0 c1 c2 c7 c8 c9 c10 g7 hwr
        obtain ⟨c0, c1, c2, _, _, _, _, c7, c8, c9, c10⟩ := vat_cells HV5.out
        have g8 : w5.frozen? ⟨g, 8, none⟩ = false := free_of HV5.out 8
        have HNXT : Hid (after p (k + 1) s = ⟨ph2, if tm ≤ 33554432 then tm + 1 else tm, if 0 ≤ of ∧ of ≤ 16777216 then of + 1 else of, fr⟩) := by
          unfold Hid
          rw [HNX.out, ← HPH.out]
          rfl
        clear HNX HPH
        by_cases q1 : tm ≤ 33554432
        · simp only [if_pos q1] at HNXT
          go_upto_region 12 with fail
          obtain ⟨w6, hw6⟩ : ∃ w6, w5.setCell ⟨g, 8, none⟩ (.int .i64 (tm + 1)) = w6 := ⟨_, rfl⟩
          have HV6 : Hid (VAt w6 g p ⟨ph2, tm + 1, of, fr⟩) := hw6 ▸ vat8 HV5.out (tm + 1)
          have HO6 : Hid (Out w6 go n (k + 1) p s) := hw6 ▸ HO5.out.keep (set_other (by show go ≠ g; omega) _)
          have HG6 : Hid (w.grownBy w6 (some g)) := hw6 ▸ grown_set HG5.out (.inl rfl) _
          rw [hw6]
          clear hw6 HV5 HO5 HG5 c0 c1 c2 c7 c8 c9 c10 g8
          obtain ⟨c0, c1, c2, _, _, _, _, c7, c8, c9, c10⟩ := vat_cells HV6.out
          have g9 : w6.frozen? ⟨g, 9, none⟩ = false := free_of HV6.out 9
          by_cases q2 : of < 0
          · simp only [if_neg (show ¬ (0 ≤ of ∧ of ≤ 16777216) by omega)] at HNXT
            go_wp2_with fail
            go_roundw
            case rel => exact ⟨k + 1, by omega, by go_num, HO6, by rw [HNXT.out]; exact HV6, HG6⟩
            case measure => simp [intOf]; omega
          by_cases q3 : 16777216 < of
          · simp only [if_neg (show ¬ (0 ≤ of ∧ of ≤ 16777216) by omega)] at HNXT
            go_wp2_with fail
            go_roundw
            case rel => exact ⟨k + 1, by omega, by go_num, HO6, by rw [HNXT.out]; exact HV6, HG6⟩
            case measure => simp [intOf]; omega
          · simp only [if_pos (show 0 ≤ of ∧ of ≤ 16777216 by omega)] at HNXT
            have q4 : 0 ≤ of := by omega
            have HV7 := Lib.hid (vat9 HV6.out (of + 1))
            have HO7 : Hid (Out (w6.setCell ⟨g, 9, none⟩ (.int .i64 (of + 1))) go n (k + 1) p s) := HO6.out.keep (set_other (by show go ≠ g; omega) _)
            have HG7 : Hid (w.grownBy (w6.setCell ⟨g, 9, none⟩ (.int .i64 (of + 1))) (some g)) := grown_set HG6.out (.inl rfl) _
            go_wp2_with fail
            go_roundw
            case rel => exact ⟨k + 1, by omega, by go_num, HO7, by rw [HNXT.out]; exact HV7.out, HG7⟩
            case measure => simp [intOf]; omega
        · simp only [if_neg q1] at HNXT
          go_upto_region 12 with fail
          have HV6 := HV5
          have HO6 := HO5
          have HG6 := HG5
          obtain ⟨w6, hw6⟩ : ∃ w6, w5 = w6 := ⟨_, rfl⟩
          rw [hw6] at HV6 HO6 HG6 ⊢
          clear hw6 HV5 HO5 HG5 c0 c1 c2 c7 c8 c9 c10 g8
          obtain ⟨c0, c1, c2, _, _, _, _, c7, c8, c9, c10⟩ := vat_cells HV6.out
          have g9 : w6.frozen? ⟨g, 9, none⟩ = false := free_of HV6.out 9
          by_cases q2 : of < 0
          · simp only [if_neg (show ¬ (0 ≤ of ∧ of ≤ 16777216) by omega)] at HNXT
            go_wp2_with fail
            go_roundw
            case rel => exact ⟨k + 1, by omega, by go_num, HO6, by rw [HNXT.out]; exact HV6, HG6⟩
            case measure => simp [intOf]; omega
          by_cases q3 : 16777216 < of
          · simp only [if_neg (show ¬ (0 ≤ of ∧ of ≤ 16777216) by omega)] at HNXT
            go_wp2_with fail
            go_roundw
            case rel => exact ⟨k + 1, by omega, by go_num, HO6, by rw [HNXT.out]; exact HV6, HG6⟩
            case measure => simp [intOf]; omega
          · simp only [if_pos (show 0 ≤ of ∧ of ≤ 16777216 by omega)] at HNXT
            have q4 : 0 ≤ of := by omega
            have HV7 := Lib.hid (vat9 HV6.out (of + 1))
            have HO7 : Hid (Out (w6.setCell ⟨g, 9, none⟩ (.int .i64 (of + 1))) go n (k + 1) p s) := HO6.out.keep (set_other (by show go ≠ g; omega) _)
            have HG7 : Hid (w.grownBy (w6.setCell ⟨g, 9, none⟩ (.int .i64 (of + 1))) (some g)) := grown_set HG6.out (.inl rfl) _
            go_wp2_with fail
            go_roundw
            case rel => exact ⟨k + 1, by omega, by go_num, HO7, by rw [HNXT.out]; exact HV7.out, HG7⟩
            case measure => simp [intOf]; omega
    · obtain rfl : k = n := by omega
      have HOWN := Lib.hid HO.out.fls
      clear HO
      go_wp2_with fail
      go_ret2
      exact ⟨_, rfl, HOWN.out, HV, HG, HNB⟩

end Go.Proofs.Ytadaegnkclleaaa.VRender
