/- In how many ways a line goes on. -/
import Derived.Test.YthdohdllpaijhaaRMap
namespace Go.Proofs.Ythdohdllpaijhaa.ROn
open Go Go.RowKit Go.Proofs.Ythdohdllpaijhaa.RMod Go.Proofs.Ythdohdllpaijhaa.RCnt Go.Proofs.Ythdohdllpaijhaa.RMap Go.Proofs.Ythdohdllpaijhaa.RAlone Go.Proofs.Ythdohdllpaijhaa.Hp Go.Proofs.Ythdohdllpaijhaa.Rd
set_option linter.unusedVariables false
set_option linter.unusedSimpArgs false

theorem bool_ne {a b : Bool} (h : ¬ a = b) : a = !b := by cases a <;> cases b <;> simp_all

structure St where
  k : Int
  s : Bool

def onF (r : Ru) (g : List Int) (i d : Nat) (key : Int) (same : Bool) (t : Int × Bool) : Nat := if (t.2 == decide (t.1 = key)) && (behindZ r g i t.1 key same == 0) then tabC r g d t.1 t.2 else 0

theorem onF_tt {r : Ru} {g : List Int} {i d : Nat} {key k : Int} {same s : Bool} (h1 : (s == decide (k = key)) = true) (h2 : behindZ r g i k key same = 0) : onF r g i d key same (k, s) = tabC r g d k s := by
  unfold onF
  simp [h1, h2]
theorem onF_f1 {r : Ru} {g : List Int} {i d : Nat} {key k : Int} {same s : Bool} (h1 : (s == decide (k = key)) = false) : onF r g i d key same (k, s) = 0 := by
  unfold onF
  simp [h1]
theorem onF_f2 {r : Ru} {g : List Int} {i d : Nat} {key k : Int} {same s : Bool} (h2 : behindZ r g i k key same ≠ 0) : onF r g i d key same (k, s) = 0 := by
  unfold onF
  simp [h2]

set_option maxHeartbeats 4000000 in
set_option maxRecDepth 100000 in
theorem on_calls (r : Ru) (ao : Option Addr) (cp : Nat) (g : List Int) (i : Nat) (key : Int) (same : Bool) (cb nt : Nat) (w : World) (hok : OkG r g) (hv : Ils w (.slice ao g.length cp) g) (hi : i < g.length) (hk : 0 ≤ key ∧ key ≤ 127)
    (hc : i + 1 < g.length → ∃ bm, w.cell? ⟨cb, 0 + (i + 1), none⟩ = some (.map (some bm)) ∧ Tab w bm nt (tabC r g (g.length - 1 - (i + 1)))) :
    Calls Try.prog 23 #[.slice (some ⟨cb, 0, none⟩) g.length g.length, .agg #[.int .i64 r.low, .int .i64 r.high, .bool r.above, .int .i64 r.leap, .int .i64 r.classes], .slice ao g.length cp, .int .i64 (i : Int), .agg #[.int .i64 key, .bool same]] w
      fun e w' => e = .returned (.int .i64 (onC r g (g.length - 1 - i) key same : Nat)) ∧ Hid (w.grownBy w' none) := by
  have hlen := hok.len
  by_cases hl : i + 1 = g.length
  · have e0 : g.length - 1 - i = 0 := by omega
    have HO : Hid ((onC r g (g.length - 1 - i) key same : Nat) = 1) := by unfold Hid; rw [e0]; rfl
    obtain ⟨R, hR⟩ : ∃ R, onC r g (g.length - 1 - i) key same = R := ⟨_, rfl⟩
    rw [hR] at HO ⊢
    obtain ⟨n, hn⟩ : ∃ n, g.length = n := ⟨_, rfl⟩
    rw [hn] at hi hlen hl ⊢
    clear hc hv hok hR hn e0
    obtain ⟨low, high, above, leap, classes⟩ := r
    have q : ((i : Int) == (n : Int) - 1) = true := by rw [beq_iff_eq]; omega
    have HG0 : Hid (w.grownBy ((w.alloc (.cells #[.int .i64 low, .int .i64 high, .bool above, .int .i64 leap, .int .i64 classes] 23)).alloc (.cells #[.int .i64 key, .bool same] 43)) none) := grown_alloc (grown_alloc (grown_refl _ _) _) _
    go_enter Try.func23, Try.ntmps23
    go_wp2_with fail
    go_ret
    exact ⟨by rw [HO.out]; rfl, HG0.out⟩
  · obtain ⟨bm, hcell, htab⟩ := hc (by omega)
    have HR : Hid (onC r g (g.length - 1 - i) key same = min (sumL (uni r) (onF r g (i + 1) (g.length - 1 - (i + 1)) key same)) cap) := by
      unfold Hid
      rw [show g.length - 1 - i = (g.length - 1 - (i + 1)) + 1 from by omega, onC_tab, show g.length - 1 - (g.length - 1 - (i + 1)) = i + 1 from by omega]
      rfl
    obtain ⟨d, hd⟩ : ∃ d, g.length - 1 - (i + 1) = d := ⟨_, rfl⟩
    rw [hd] at HR htab
    obtain ⟨R, hR⟩ : ∃ R, onC r g (g.length - 1 - i) key same = R := ⟨_, rfl⟩
    rw [hR] at HR ⊢
    have HOK := Lib.hid hok
    have HV := Lib.hid hv
    have HT := Lib.hid htab
    obtain ⟨n, hn⟩ : ∃ n, g.length = n := ⟨_, rfl⟩
    have HN := Lib.hid hn
    rw [hn] at hi hlen hl ⊢
    have hcb := cell_lt hcell
    have hbm := htab.lt
    clear hc hv hok hR hn htab hd
    obtain ⟨low, high, above, leap, classes⟩ := r
    have q : ((i : Int) == (n : Int) - 1) = false := by rw [beq_eq_false_iff_ne]; omega
    have HG0 : Hid (w.grownBy ((w.alloc (.cells #[.int .i64 low, .int .i64 high, .bool above, .int .i64 leap, .int .i64 classes] 23)).alloc (.cells #[.int .i64 key, .bool same] 43)) none) := grown_alloc (grown_alloc (grown_refl _ _) _) _
    obtain ⟨F, hF⟩ : ∃ F, onF ⟨low, high, above, leap, classes⟩ g (i + 1) d key same = F := ⟨_, rfl⟩
    rw [hF] at HR
    have HF := Lib.hid hF
    clear hF
    have B : Hid (∀ (sm k : Int) (w' : World), same = decide (0 < sm) → w.grownBy w' none → 0 ≤ k ∧ k ≤ 127 → Calls Try.prog 19 #[.agg #[.int .i64 low, .int .i64 high, .bool above, .int .i64 leap, .int .i64 classes], .slice ao n cp, .int .i64 ((i : Int) + 1), .int .i64 k, .int .i64 key, .int .i64 sm] w'
        fun e w'' => e = .returned (.int .i64 (behindZ ⟨low, high, above, leap, classes⟩ g (i + 1) k key same)) ∧ Hid (w'.grownBy w'' none)) := by
      intro sm k w' hs hg hk'
      have := behind_calls ⟨low, high, above, leap, classes⟩ ao cp g (i + 1) k key sm same w' HOK.out (Ils.grown HV.out hg) (by rw [HN.out]; omega) (by omega) hk' hk hs
      rw [HN.out] at this
      exact this
    have KB : Hid (∀ k s, (k, s) ∈ uni ⟨low, high, above, leap, classes⟩ → 0 ≤ k ∧ k ≤ 127) := by
      intro k s h
      have h1 := mem_uni.1 h
      obtain ⟨a1, a2, _⟩ := HOK.out.rules
      simp only at h1 a1 a2
      omega
    have FT : Hid (∀ k s, (s == decide (k = key)) = true → behindZ ⟨low, high, above, leap, classes⟩ g (i + 1) k key same = 0 → F (k, s) = tabC ⟨low, high, above, leap, classes⟩ g d k s) := fun k s h1 h2 => by rw [← HF.out]; exact onF_tt h1 h2
    have FF1 : Hid (∀ k s, (s == decide (k = key)) = false → F (k, s) = 0) := fun k s h1 => by rw [← HF.out]; exact onF_f1 h1
    have FF2 : Hid (∀ k s, behindZ ⟨low, high, above, leap, classes⟩ g (i + 1) k key same ≠ 0 → F (k, s) = 0) := fun k s h1 => by rw [← HF.out]; exact onF_f2 h1
    have FZ : Hid (∀ k s, tabC ⟨low, high, above, leap, classes⟩ g d k s = 0 → F (k, s) = 0) := fun k s h1 => by
      rw [← HF.out]; unfold onF; split
      · exact h1
      · rfl
    have HKEY : Hid (0 ≤ key ∧ key ≤ 127) := hk
    obtain ⟨TB, hTB⟩ : ∃ f, tabC ⟨low, high, above, leap, classes⟩ g d = f := ⟨_, rfl⟩
    have TR : Hid (∀ k s, 0 < TB k s → low ≤ k ∧ k ≤ high) := fun k s h => by rw [← hTB] at h; exact tabC_range h
    have TL : Hid (∀ k s, TB k s ≤ cap) := fun k s => by rw [← hTB]; exact tabC_le _ _ _ _ _
    rw [hTB] at HT FT FZ
    obtain ⟨BZ, hBZ⟩ : ∃ f : Int → Int, (fun k => behindZ ⟨low, high, above, leap, classes⟩ g (i + 1) k key same) = f := ⟨_, rfl⟩
    have hBZ' : ∀ k, behindZ ⟨low, high, above, leap, classes⟩ g (i + 1) k key same = BZ k := fun k => by rw [← hBZ]
    simp only [hBZ'] at B FT FF2
    have HRS := Lib.hid HOK.out.rules
    clear hTB hBZ hBZ' HF HV HOK hk
    have SM : same = false ∧ Hid (same = decide ((0 : Int) < 0)) ∨ same = true ∧ Hid (same = decide ((0 : Int) < 1)) := by
      cases same
      · exact .inl ⟨rfl, rfl⟩
      · exact .inr ⟨rfl, rfl⟩
    obtain ⟨w2, hw2⟩ : ∃ w2, ((w.alloc (.cells #[.int .i64 low, .int .i64 high, .bool above, .int .i64 leap, .int .i64 classes] 23)).alloc (.cells #[.int .i64 key, .bool same] 43)) = w2 := ⟨_, rfl⟩
    obtain ⟨gb, hgb⟩ : ∃ gb, w.heap.size = gb := ⟨_, rfl⟩
    have HROW : Hid (w2.heap[gb]? = some (.cells #[.int .i64 low, .int .i64 high, .bool above, .int .i64 leap, .int .i64 classes] 23 (0, 0))) := by
      unfold Hid; rw [← hw2, ← hgb]; exact (heap_alloc_old _ _ (by simp)).trans (heap_alloc_new _ _)
    have HST : Hid (w2.heap[gb + 1]? = some (.cells #[.int .i64 key, .bool same] 43 (0, 0))) := by
      unfold Hid; rw [← hw2, ← hgb]; exact (by simpa using heap_alloc_new (w.alloc (.cells #[.int .i64 low, .int .i64 high, .bool above, .int .i64 leap, .int .i64 classes] 23)) (.cells #[.int .i64 key, .bool same] 43))
    rw [hw2] at HG0
    have hgs : w2.heap.size = gb + 2 := by rw [← hw2, ← hgb]; simp
    have hcell2 : w2.cell? ⟨cb, i + 1, none⟩ = some (.map (some bm)) := by rw [Nat.zero_add] at hcell; exact grown_cell HG0.out hcell (by simp)
    have HT2 : Hid (Tab w2 bm nt TB) := HT.out.kept HG0.out (by simp)
    have c0 : w2.cell? ⟨gb + 1, 0, none⟩ = some (.int .i64 key) := by have h := HST.out; unfold Hid at h; simp [World.cell?, h]
    have c1 : w2.cell? ⟨gb + 1, 1, none⟩ = some (.bool same) := by have h := HST.out; unfold Hid at h; simp [World.cell?, h]
    rw [hgb] at hcb hbm
    clear HT
    obtain ⟨D, hown, hat0, hhas⟩ := HT2.out
    have HAT := Lib.hid hat0
    have HHAS := Lib.hid hhas
    clear hat0 hhas
    rcases SM with ⟨rfl, SM⟩ | ⟨rfl, SM⟩
    all_goals
      go_enter Try.func23, Try.ntmps23
      go_upto_region 4 with fail
      try simp only [hgb, hw2]
      clear hw2 hgb hcell
      go_wp2_with (first
        | (at_range; refine wpList_range_own _ rfl _ 38 rfl 43 3 law43 under38 RI bm nt D rfl hown ?_; intro w0 hrg0 hg0 hs0)
        | go_in)
      try go_frame
      rw [hgs] at hrg0 ⊢
      have HGW0 : Hid (w2.grownBy w0 none) := hg0
      clear hg0 hs0 hcell2
      go_loopw [11, 13, 14] (fun v11 v13 v14 wr => ∃ (left : Lit → Bool) (cnt acc : Nat), wr.ranges Try.prog 43 RI bm (gb + 2) nt D left cnt ∧ v11 = .int .i64 (acc : Int) ∧ acc ≤ cap ∧ Hid (acc = come ⟨low, high, above, leap, classes⟩ left F) ∧ Hid (w2.grownBy wr none))
        (fun _ _ _ wr => wr.rangeLeft bm (gb + 2))
      case atStart =>
        refine ⟨_, _, 0, hrg0, rfl, Nat.zero_le _, ?_, HGW0⟩
        unfold Hid
        rw [come_start HRS.out HHAS.out FZ.out]
      case round =>
        obtain ⟨left, cnt, acc, hrg, rfl, hacc, HA, HGR⟩ := hrel
        have hle : wr.rangeLeft bm (gb + 2) = cnt := hrg.left_eq
        go_wp2_with (first
          | (at_next; refine wpList_next_ranges _ rfl _ rfl 43 law43 RI (fun p : St => .agg #[.int .i64 p.k, .bool p.s]) (Value.int .i64) (fun key kl h => by obtain ⟨k, s, rfl, _, _⟩ := keyOf_inv h; exact ⟨⟨k, s⟩, rfl⟩) (fun v y h => by obtain ⟨c, rfl, _⟩ := plainElem_int_inv under3 h; exact ⟨c, rfl⟩) bm (gb + 2) nt D left cnt rfl hrg ?_ ?_)
          | go_in)
        · intro hc0 hl0
          have HX : Hid ((acc : Int) = R) := by
            unfold Hid
            rw [HA.out, HR.out, come_end hl0]
          have HGF : Hid (w.grownBy wr none) := grown_trans HG0.out HGR.out
          clear hrg
          go_wp2_with fail
          go_ret
          exact ⟨by rw [HX.out]; rfl, HGF.out⟩
        · intro x c kl0 ya yb w1 cnt1 hkey hlx hval hat hrg1 hlt hg1 hs1 hen
          obtain ⟨k, s⟩ := x
          dsimp only at hkey hen ⊢
          obtain ⟨k', s', e, hw, rfl⟩ := keyOf_inv hkey
          simp only [Value.agg.injEq, Array.mk.injEq, List.cons.injEq, Value.int.injEq, Value.bool.injEq, and_true, true_and] at e
          obtain ⟨rfl, rfl⟩ := e
          obtain ⟨c', ec, ey, hwc⟩ := plainElem_int_inv under3 hval
          simp only [Value.int.injEq, true_and, Prod.mk.injEq] at ec ey
          obtain rfl := ec
          obtain ⟨rfl, _⟩ := ey
          have e2 := HAT.out k s hw
          rw [hat] at e2
          simp only [DataW.lit.injEq, Lit.int.injEq, true_and] at e2
          obtain rfl := e2
          have hpos : 0 < TB k s := by
            have h1 := Maps.has_true_of_atKey hat
            rw [HHAS.out k s hw] at h1
            simpa using h1
          have hin : (k, s) ∈ uni ⟨low, high, above, leap, classes⟩ := mem_uni.2 (TR.out k s hpos)
          have HCS : Hid (come ⟨low, high, above, leap, classes⟩ (fun z => left z && !z.sameKey (kl k s)) F = min (acc + F (k, s)) cap) := by
            unfold Hid; rw [come_step HRS.out hin hlx, ← HA.out]
          obtain ⟨kk0, kk1⟩ := KB.out k s hin
          have htl := TL.out k s
          obtain ⟨m, hm⟩ : ∃ m, TB k s = m := ⟨_, rfl⟩
          have FTk := FT.out k s
          have FF1k := FF1.out k s
          have FF2k := FF2.out k s
          rw [hm] at htl hpos FTk
          simp only [hm] at hen ⊢
          have HF0 := Lib.hid FTk
          have HF1 := Lib.hid FF1k
          have HF2 := Lib.hid FF2k
          clear FTk FF1k FF2k hat hval hkey hwc
          have hgr1 : Hid (w2.grownBy w1 none) := grown_from HGR.out hg1 (.inl (by omega))
          have d0 : w1.cell? ⟨gb + 1, 0, none⟩ = some (.int .i64 key) := grown_cell hgr1.out c0 (by simp)
          have d1 := grown_cell hgr1.out c1 (by simp)
          have dr : w1.heap[gb]? = some (.cells #[.int .i64 low, .int .i64 high, .bool above, .int .i64 leap, .int .i64 classes] 23 (0, 0)) := by
            rw [hgr1.out.block gb (by omega) (by simp)]; exact HROW.out
          have hw1s : gb + 2 < w1.heap.size := hrg1.lt
          have HGW1 : Hid (w.grownBy w1 none) := grown_trans HG0.out hgr1.out
          have HRG1 := Lib.hid hrg1
          clear hrg hrg1 hg1 c0 c1 hlx hown hs1
          have hcap : cap = 1000000000 := rfl
          rw [hcap] at hacc htl HCS
          obtain ⟨bz, hbz⟩ : ∃ z, BZ k = z := ⟨_, rfl⟩
          have B1 := Lib.hid (fun sm w' hs hg => B.out sm k w' hs hg ⟨kk0, kk1⟩)
          rw [hbz] at B1 HF0 HF2
          obtain ⟨o, ho⟩ : ∃ o, Obj.cells #[Value.int .i64 k, Value.bool s] 43 (0, 0) = o := ⟨_, rfl⟩
          have hga : Hid (w1.grownBy (w1.alloc o) none) := grown_alloc (grown_refl _ _) _
          have a0 := grown_cell hga.out d0 (by simp)
          have ar : (w1.alloc o).heap[gb]? = some (.cells #[.int .i64 low, .int .i64 high, .bool above, .int .i64 leap, .int .i64 classes] 23 (0, 0)) := by
            rw [hga.out.block gb (by omega) (by simp)]; exact dr
          have r0 := cell_of ar 0
          have r1 := cell_of ar 1
          have r2 := cell_of ar 2
          have r3 := cell_of ar 3
          have r4 := cell_of ar 4
          have HGA := Lib.hid (grown_alloc HGW1.out o)
          clear ar dr d0 d1
          by_cases q1 : s = (k == key)
          · subst q1
            have hq1 : ((k == key) == decide (k = key)) = true := by rw [beq_iff_eq, Bool.eq_iff_iff]; simp
            by_cases q2 : bz = 0
            · subst q2
              subst ho
              have HFV := Lib.hid (HF0.out hq1 rfl)
              rw [HFV.out] at HCS
              go_wp2_with (go_at_call 19; refine (B1.out _ _ SM.out HGA.out).mono ?_; rintro e w3 ⟨rfl, hg3⟩)
              have hr3 := (HRG1.out.kept hga.out (by simp) (by simp)).kept hg3.out (by simp) (by simp)
              refine ⟨⟨_, _, min (acc + m) 1000000000, hr3, ?_, ?_, ?_, grown_trans hgr1.out (grown_trans hga.out hg3.out)⟩, ?_⟩
              · rw [Value.int.injEq]
                refine ⟨rfl, ?_⟩
                split <;> omega
              · rw [hcap]; exact Nat.min_le_right _ _
              · unfold Hid; rw [HCS.out]
              · rw [hr3.left_eq, hle]; exact hlt
            · have q2' : (bz == 0) = false := by simpa using q2
              subst ho
              have HFV := Lib.hid (HF2.out q2)
              rw [HFV.out] at HCS
              go_wp2_with (go_at_call 19; refine (B1.out _ _ SM.out HGA.out).mono ?_; rintro e w3 ⟨rfl, hg3⟩)
              have hr3 := (HRG1.out.kept hga.out (by simp) (by simp)).kept hg3.out (by simp) (by simp)
              refine ⟨⟨_, _, acc, hr3, rfl, by rw [hcap]; exact hacc, ?_, grown_trans hgr1.out (grown_trans hga.out hg3.out)⟩, ?_⟩
              · unfold Hid; rw [HCS.out]; omega
              · rw [hr3.left_eq, hle]; exact hlt
          · have q1' : s = !(k == key) := bool_ne q1
            subst q1'
            have hq1 : ((!(k == key)) == decide (k = key)) = false := by
              have : decide (k = key) = (k == key) := by rw [Bool.eq_iff_iff]; simp
              rw [this]; cases (k == key) <;> rfl
            subst ho
            have HFV := Lib.hid (HF1.out hq1)
            rw [HFV.out] at HCS
            have hnb : ((!(k == key)) == (k == key)) = false := by cases (k == key) <;> rfl
            go_wp2_with fail
            have hr3 := HRG1.out.kept hga.out (by simp) (by simp)
            refine ⟨⟨_, _, acc, hr3, rfl, by rw [hcap]; exact hacc, ?_, grown_trans hgr1.out hga.out⟩, ?_⟩
            · unfold Hid; rw [HCS.out]; omega
            · rw [hr3.left_eq, hle]; exact hlt
end Go.Proofs.Ythdohdllpaijhaa.ROn
