/- Ways, the reference's: the walk. -/
import Derived.Test.YthdohdllpaijhaaRTbl
import Derived.Test.YthdohdllpaijhaaRBrk
import Derived.Test.YthdohdllpaijhaaMixed
import Derived.Deep.CutRange
namespace Go.Proofs.Ythdohdllpaijhaa.RWays
open Go Go.RowKit Go.Proofs.Ythdohdllpaijhaa.RMod Go.Proofs.Ythdohdllpaijhaa.RCnt Go.Proofs.Ythdohdllpaijhaa.RTab Go.Proofs.Ythdohdllpaijhaa.REnd Go.Proofs.Ythdohdllpaijhaa.RWayP Go.Proofs.Ythdohdllpaijhaa.RTbl Go.Proofs.Ythdohdllpaijhaa.RBrk Go.Proofs.Ythdohdllpaijhaa.RSnd Go.Proofs.Ythdohdllpaijhaa.RCheck Go.Proofs.Ythdohdllpaijhaa.RFind Go.Proofs.Ythdohdllpaijhaa.RAlone Go.Proofs.Ythdohdllpaijhaa.Hp Go.Proofs.Ythdohdllpaijhaa.Rd
set_option linter.unusedVariables false
set_option linter.unusedSimpArgs false

theorem most_sum (a b : Nat) (w : World) (h : a + b ≤ 2000000000) : Calls Try.prog 30 #[.int .i64 ((a : Int) + (b : Int))] w fun e w' => e = .returned (.int .i64 ((min (a + b) cap : Nat) : Int)) ∧ w' = w := by
  have := most_calls (a + b) w h
  rw [Int.natCast_add] at this
  exact this

theorem brk_one (r : Ru) (g : List Int) (k : Int) : brkZ r g [k] 0 = aloneZ r g 0 k := by
  unfold brkZ
  rw [if_neg (by omega)]
  rfl

/-- A later world, in which nothing has turned but a row. -/
structure LateR (w : World) (row : Option Nat) where
  w' : World
  h : w.grownBy w' row
def lateR (w : World) (row : Option Nat) (w' : World) : Prop := ∃ n : LateR w row, w' = n.w'
theorem lateR_of {w : World} {row : Option Nat} {w' : World} (h : w.grownBy w' row) : lateR w row w' := ⟨⟨w', h⟩, rfl⟩

theorem st_of {k t : Nat} (ht : t < 2) : st (2 * k + t) = ((k : Int), decide (t = 1)) := by
  have : t = 0 ∨ t = 1 := by omega
  rcases this with rfl | rfl
  · exact st_even k
  · exact st_odd k

/-- What is counted of a beginning. -/
def waysL (r : Ru) (g l : List Int) : Nat :=
  if l.length = g.length then 1 else if l.length = 0 then waysC r g (g.length - 1) 1 (F1 r g) else waysC r g (g.length - l.length) l.length (Fi (at_ l (l.length - 1)) (sameB l l.length))

theorem fi_le (k : Int) (b : Bool) (s : St) : Fi k b s ≤ 1 := by unfold Fi; split <;> omega
theorem f1_le (r : Ru) (g : List Int) (s : St) : F1 r g s ≤ 1 := by unfold F1; split <;> omega

theorem cF_no {r : Ru} {g : List Int} {a : Nat} {F : St → Nat} {k : Int} {t : Bool} {s : St} (h : aloneZ r g a k ≠ 0 ∨ behindZ r g a k s.1 s.2 ≠ 0) (ha : a < g.length) : cF r g a F (k, t) s = 0 := by
  unfold cF okT
  rw [show g.length - 1 - (g.length - 1 - a) = a from by omega]
  rcases h with h | h <;> simp [h]
theorem cF_yes {r : Ru} {g : List Int} {a : Nat} {F : St → Nat} {k : Int} {s : St} (h1 : aloneZ r g a k = 0) (h2 : behindZ r g a k s.1 s.2 = 0) (ha : a < g.length) : cF r g a F (k, decide (k = s.1)) s = F s := by
  unfold cF okT
  rw [show g.length - 1 - (g.length - 1 - a) = a from by omega]
  simp [h1, h2]
theorem cF_other {r : Ru} {g : List Int} {a : Nat} {F : St → Nat} {k : Int} {t : Bool} {s : St} (h : t ≠ decide (k = s.1)) : cF r g a F (k, t) s = 0 := by
  unfold cF okT
  simp [h]
theorem cF_zero {r : Ru} {g : List Int} {a : Nat} {F : St → Nat} {t s : St} (h : F s = 0) : cF r g a F t s = 0 := by
  unfold cF
  rw [h]
  simp

set_option maxHeartbeats 8000000 in
set_option maxRecDepth 100000 in
theorem ways_calls (r : Ru) (a1 a2 : Option Addr) (c1 c2 : Nat) (g l : List Int) (w : World) (hok : OkG r g) (hv : Ils w (.slice a1 g.length c1) g) (hl : Ils w (.slice a2 l.length c2) l) (hle : l.length ≤ g.length)
    (hk : 0 < l.length → 0 ≤ at_ l (l.length - 1) ∧ at_ l (l.length - 1) ≤ 127) :
    Calls Try.prog 22 #[.agg #[.int .i64 r.low, .int .i64 r.high, .bool r.above, .int .i64 r.leap, .int .i64 r.classes], .slice a1 g.length c1, .slice a2 l.length c2] w
      fun e w' => e = .returned (.int .i64 ((waysL r g l : Nat) : Int)) ∧ Hid (w.grownBy w' none) := by
  have HG0 : ∀ o, Hid (w.grownBy (w.alloc o) none) := fun o => grown_alloc (grown_refl _ _) _
  by_cases hbn : l.length = g.length
  · have hw : waysL r g l = 1 := if_pos hbn
    rw [hw]
    obtain ⟨n, hn⟩ : ∃ n, g.length = n := ⟨_, rfl⟩
    rw [hbn, hn]
    have hlen := hok.len
    rw [hn] at hlen
    clear hv hl hk hok hle hbn hw hn
    go_enter Try.func22, Try.ntmps22
    go_wp2_with fail
    go_ret
    exact ⟨rfl, (HG0 _).out⟩
  have BRK0 : Hid (∀ (k : Int) (w' : World) (a3 : Option Addr) (c3 : Nat), 0 ≤ k ∧ k ≤ 127 → w.grownBy w' none → Ils w' (.slice a3 1 c3) [k] → Calls Try.prog 21 #[.agg #[.int .i64 r.low, .int .i64 r.high, .bool r.above, .int .i64 r.leap, .int .i64 r.classes], .slice a1 g.length c1, .slice a3 1 c3, .int .i64 0] w'
      fun e w'' => e = .returned (.int .i64 (aloneZ r g 0 k)) ∧ Hid (w'.grownBy w'' none)) := fun k w' a3 c3 h hg hx => by
    have := breaks_calls r a1 a3 c1 c3 g [k] 0 w' hok (Ils.grown hv hg) hx (by have := hok.len; omega) (by simp) (by simp) (by simpa [at_] using h) (by omega)
    rw [brk_one] at this
    exact this
  have BRKE : Hid (∀ (a : Nat) (last : Int) (t : Nat) (k : Int) (w' : World) (gb : Nat), 1 ≤ a → a < g.length → 0 ≤ last ∧ last ≤ 127 → 0 ≤ k ∧ k ≤ 127 → w.grownBy w' none → Ils w' (.slice (some ⟨gb, 0, none⟩) (a + 1) (a + 1)) (endL a last t k) →
      Calls Try.prog 21 #[.agg #[.int .i64 r.low, .int .i64 r.high, .bool r.above, .int .i64 r.leap, .int .i64 r.classes], .slice a1 g.length c1, .slice (some ⟨gb, 0, none⟩) (a + 1) (a + 1), .int .i64 (a : Int)] w'
      fun e w'' => e = .returned (.int .i64 (if aloneZ r g a k = 0 then behindZ r g a k last (decide (2 ≤ a) && decide (t = 1)) else aloneZ r g a k)) ∧ Hid (w'.grownBy w'' none)) := fun a last t k w' gb ha han hl hk hg hx => by
    have hlen := hok.len
    have := breaks_calls r a1 (some ⟨gb, 0, none⟩) c1 (a + 1) g (endL a last t k) a w' hok (Ils.grown hv hg) (by rw [endL_len]; exact hx) han (by rw [endL_len]; omega) (by rw [endL_len]; omega) (by rw [endL_at]; exact hk) (fun _ => by rw [endL_last _ _ _ ha]; exact hl)
    rw [brk_end _ _ _ _ _ ha, endL_len] at this
    exact this
  have HOK := Lib.hid hok
  have hlen := hok.len
  have hlt : l.length < g.length := by omega
  have HVL : Hid (waysL r g l = waysC r g (g.length - (max l.length 1)) (max l.length 1) (if l.length = 0 then F1 r g else Fi (at_ l (l.length - 1)) (sameB l l.length))) := by
    unfold Hid waysL
    rw [if_neg hbn]
    by_cases h0 : l.length = 0
    · rw [if_pos h0, if_pos h0, h0]; rfl
    · rw [if_neg h0, if_neg h0, show max l.length 1 = l.length from by omega]
  obtain ⟨V, hV⟩ : ∃ V, waysL r g l = V := ⟨_, rfl⟩
  rw [hV] at HVL ⊢
  have HL := Lib.hid hl
  have HK := Lib.hid hk
  obtain ⟨n, hn⟩ : ∃ n, g.length = n := ⟨_, rfl⟩
  obtain ⟨b, hb⟩ : ∃ b, l.length = b := ⟨_, rfl⟩
  rw [hn] at BRK0 BRKE hlen hlt HVL ⊢
  rw [hb] at HL HK HVL hlt ⊢
  have HN := Lib.hid hn
  have HBL := Lib.hid hb
  have hrs := hok.rules
  unfold okR at hrs
  obtain ⟨q0, q1, q2, _, _, _⟩ := hrs
  clear hv hok hn hb hl hk hV hbn hle
  obtain ⟨rr, hrr⟩ : ∃ rr : Ru, r = rr := ⟨_, rfl⟩
  rw [hrr] at HVL HOK
  simp only [show aloneZ r = aloneZ rr from by rw [hrr], show behindZ r = behindZ rr from by rw [hrr]] at BRK0 BRKE
  have HRR := Lib.hid hrr
  clear hrr
  obtain ⟨low, high, above, leap, classes⟩ := r
  simp only at BRK0 BRKE q0 q1 q2 ⊢
  obtain ⟨i0, hi, hz0, hz1, hz2⟩ := info_parts info24
  obtain ⟨gb, hgb⟩ : ∃ gb, w.heap.size = gb := ⟨_, rfl⟩
  have HG1 := HG0 (.cells #[.int .i64 low, .int .i64 high, .bool above, .int .i64 leap, .int .i64 classes] 23)
  have HR0 : Hid ((w.alloc (.cells #[.int .i64 low, .int .i64 high, .bool above, .int .i64 leap, .int .i64 classes] 23)).heap[gb]? = some (.cells #[.int .i64 low, .int .i64 high, .bool above, .int .i64 leap, .int .i64 classes] 23 (0, 0))) := by unfold Hid; rw [← hgb]; exact heap_alloc_new _ _
  have hws : (w.alloc (.cells #[.int .i64 low, .int .i64 high, .bool above, .int .i64 leap, .int .i64 classes] 23)).heap.size = gb + 1 := by rw [← hgb]; simp
  have HWS := Lib.hid hws
  have HGB := Lib.hid hgb
  clear hgb hws HG0
  have hbn : ((b : Int) == (n : Int)) = false := by rw [beq_eq_false_iff_ne]; omega
  go_enter Try.func22, Try.ntmps22
  go_upto_region 4 with (at_make; refine wpList_make_full _ rfl _ _ 52 rfl (gb + 1) 24 i0 (.slice none 0 0) 1 Try.underlying52 hi hz0 hz1 _ _ _ _ 128 rfl rfl (by rfl) (by rfl) (by rw [hz2]; omega) (by unfold maxLen; omega) (by rw [HWS.out]; exact Nat.le_refl _) ?_; intro w2 hown2 hg2; have HOW2 := Lib.hid hown2; have HG2 := Lib.hid hg2; clear hown2 hg2)
  obtain ⟨B, hB⟩ : ∃ B, gb + 1 = B := ⟨_, rfl⟩
  rw [hB] at HOW2 HWS
  simp only [HGB.out, hB]
  have HK0 : Hid (TblK w2 B w2.heap.size 0) := by
    have h := HOW2.out
    rw [HWS.out] at h
    exact TblK.made HWS.out h
  obtain ⟨D, hD⟩ : ∃ D, w2.heap.size = D := ⟨_, rfl⟩
  rw [hD] at HK0
  have HGA : Hid (w.grownBy w2 none) := grown_trans HG1.out HG2.out
  have HRA : Hid (w2.heap[gb]? = some (.cells #[.int .i64 low, .int .i64 high, .bool above, .int .i64 leap, .int .i64 classes] 23 (0, 0))) := by unfold Hid; rw [HG2.out.block gb (lt_of HR0.out) (by simp)]; exact HR0.out
  have HGBB : Hid (gb < B) := by unfold Hid; omega
  clear HOW2 HG2 HG1 HR0 hD
  go_wp2_with fail
  go_loopw [27] (fun v27 wr => ∃ k : Nat, k ≤ 128 ∧ v27 = .int .i64 (k : Int) ∧ Hid (TblK wr B D k) ∧ Hid (w.grownBy wr none) ∧ Hid (wr.heap[gb]? = some (.cells #[.int .i64 low, .int .i64 high, .bool above, .int .i64 leap, .int .i64 classes] 23 (0, 0)))) (fun v27 _ => 128 - (intOf v27).toNat)
  case atStart => exact ⟨0, by omega, rfl, HK0.out, HGA.out, HRA.out⟩
  case round =>
    clear HK0 HGA HRA
    obtain ⟨k, hk, rfl, HT, HG, HR⟩ := hrel
    by_cases hke : k = 128
    · subst hke
      have HT0 : Hid (Tbl wr B D fun _ => 0) := HT.out.done
      clear HT
      go_upto_if 38 with fail
      obtain ⟨a0, ha0⟩ : ∃ a0, max b 1 = a0 := ⟨_, rfl⟩
      obtain ⟨F0, hF0⟩ : ∃ F0, (if b = 0 then F1 rr g else Fi (at_ l (b - 1)) (sameB l b)) = F0 := ⟨_, rfl⟩
      have HA0 := Lib.hid ha0
      have HF0 := Lib.hid hF0
      rw [ha0, hF0] at HVL
      have ha1 : 1 ≤ a0 := by omega
      have ha2 : a0 ≤ n := by omega
      clear ha0 hF0
      go_cut [9] from 9 to 86 (fun v9 wx => v9 = .int .i64 (a0 : Int) ∧ Hid (Tbl wx B D F0) ∧ Hid (w.grownBy wx none) ∧ Hid (wx.heap[gb]? = some (.cells #[.int .i64 low, .int .i64 high, .bool above, .int .i64 leap, .int .i64 classes] 23 (0, 0))))
      case first =>
        by_cases b0 : b = 0
        · obtain rfl : a0 = 1 := by have := HA0.out; omega
          have HF : Hid (F0 = F1 rr g) := by unfold Hid; rw [← HF0.out, if_pos b0]
          subst b0
          clear HF0 HA0 HVL BRKE HK HL
          go_wp2_with fail
          go_loopw [10] (fun v10 wr => ∃ k : Nat, k ≤ 128 ∧ v10 = .int .i64 (k : Int) ∧ Hid (Tbl wr B D (fun s => if s.1 < (k : Int) then F0 s else 0)) ∧ Hid (w.grownBy wr none) ∧ Hid (wr.heap[gb]? = some (.cells #[.int .i64 low, .int .i64 high, .bool above, .int .i64 leap, .int .i64 classes] 23 (0, 0)))) (fun v10 _ => 128 - (intOf v10).toNat)
          case atStart => exact ⟨0, by omega, rfl, HT0.out.imp (fun k b hk => by rw [if_neg (by simp only; omega)]), HG.out, HR.out⟩
          case round =>
            clear HT0 HG HR
            obtain ⟨k, hk, rfl, HT, HG, HR⟩ := hrel
            by_cases hke : k = 128
            · have HT1 : Hid (Tbl wr B D F0) := HT.out.imp (fun j b hj => by rw [if_pos (by simp; omega)])
              subst hke
              go_wp2_with fail
              go_meet
              exact ⟨rfl, HT1.out, HG.out, HR.out⟩
            have hkl : k ≤ 127 := by omega
            have r0 := cell_of HR.out 0
            have r1 := cell_of HR.out 1
            have r2 := cell_of HR.out 2
            have r3 := cell_of HR.out 3
            have r4 := cell_of HR.out 4
            have HI : Hid (Ils (wr.alloc (.cells #[.int .i64 (k : Int)] 3)) (.slice (some ⟨wr.heap.size, 0, none⟩) 1 1) [(k : Int)]) := by
              refine .inl ⟨wr.heap.size, 0, 1, rfl, fun i x hx => ?_⟩
              match i, hx with
              | 0, hx => simp at hx; subst hx; exact ⟨.int .i64 (k : Int), cell_of (heap_alloc_new _ _) 0, rfl⟩
            have HGa : Hid (w.grownBy (wr.alloc (.cells #[.int .i64 (k : Int)] 3)) none) := grown_alloc HG.out _
            have HB := Lib.hid (BRK0.out (k : Int) _ (some ⟨wr.heap.size, 0, none⟩) 1 (by omega) HGa.out HI.out)
            go_upto_if 48 with (go_at_call 21; refine (HB.out).mono ?_; rintro e w3 ⟨rfl, hg3⟩)
            clear r0 r1 r2 r3 r4
            have HG3 : Hid (w.grownBy w3 none) := grown_trans HGa.out hg3.out
            have HWR : Hid (wr.grownBy w3 none) := grown_trans (grown_alloc (grown_refl _ _) _) hg3.out
            have HT3 : Hid (Tbl w3 B D (fun s => if s.1 < (k : Int) then F0 s else 0)) := HT.out.kept HWR.out (fun j h => by cases h)
            have HR3 : Hid (w3.heap[gb]? = some (.cells #[.int .i64 low, .int .i64 high, .bool above, .int .i64 leap, .int .i64 classes] 23 (0, 0))) := by unfold Hid; rw [HWR.out.block gb (lt_of HR.out) (by simp)]; exact HR.out
            clear HT HG HR HI HGa HB hg3 HWR
            by_cases hz : aloneZ rr g 0 (k : Int) = 0
            · simp only [hz]
              have HV0 : Hid (F0 ((k : Int), false) = 1) := by unfold Hid; rw [HF.out]; unfold F1; rw [if_pos ⟨rfl, hz⟩]
              have HV1 : Hid (F0 ((k : Int), true) = 0) := by unfold Hid; rw [HF.out]; unfold F1; rw [if_neg (by simp)]
              clear hz
              have x0 := HT3.out.row hkl
              have x1 := HT3.out.c0 hkl
              have x2 := HT3.out.free hkl 0
              go_wp2_with fail
              have HG4 : Hid (w3.grownBy (w3.setCell ⟨D + k, 0, none⟩ (.int .i64 1)) (some (D + k))) := grown_set (p := ⟨D + k, 0, none⟩) (grown_refl w3 (some (D + k))) (.inl rfl) _
              refine ⟨⟨k + 1, by omega, rfl, (HT3.out.set (t := 0) hkl (by omega) 1).imp (fun j b hj => ?_), grown_own HG3.out HG4.out (fun j h => by cases h; have := HGB.out; have := HGBB.out; have := HT3.out.lt; unfold Hid at *; omega), ?_⟩, by simp only [intOf]; omega⟩
              · rw [show 2 * k + 0 = 2 * k from rfl, st_even]
                by_cases hj2 : j = k
                · subst hj2
                  cases b
                  · rw [if_pos rfl, if_pos (by simp only; omega), HV0.out]
                  · rw [if_neg (by simp), if_neg (by simp), if_pos (by simp only; omega), HV1.out]
                · rw [if_neg (by simp; omega)]
                  by_cases hj3 : j < k
                  · rw [if_pos (by simp only; omega), if_pos (by simp only; omega)]
                  · rw [if_neg (by simp only; omega), if_neg (by simp only; omega)]
              · unfold Hid
                rw [HG4.out.block gb (lt_of HR3.out) (by have := HGBB.out; have := HT3.out.lt; unfold Hid at *; simp; omega)]
                exact HR3.out
            · have hzb : (aloneZ rr g 0 (k : Int) == 0) = false := by rw [beq_eq_false_iff_ne]; exact hz
              have HV0 : Hid (∀ b, F0 ((k : Int), b) = 0) := by intro b; rw [HF.out]; unfold F1; rw [if_neg (fun h => hz h.2)]
              obtain ⟨zz, hzz⟩ : ∃ zz, aloneZ rr g 0 (k : Int) = zz := ⟨_, rfl⟩
              rw [hzz] at hzb
              simp only [hzz]
              clear hz hzz
              go_wp2_with fail
              refine ⟨?_, by simp [intOf]; omega⟩
              repeat apply Exists.intro
              refine ⟨?_, rfl⟩
              refine ⟨k + 1, by omega, rfl, HT3.out.imp (fun j b hj => ?_), HG3.out, HR3.out⟩
              by_cases hj2 : j = k
              · subst hj2
                rw [if_neg (by simp only; omega), if_pos (by simp only; omega), HV0.out]
              · by_cases hj3 : j < k
                · rw [if_pos (by simp only; omega), if_pos (by simp only; omega)]
                · rw [if_neg (by simp only; omega), if_neg (by simp only; omega)]
        · obtain rfl : a0 = b := by have := HA0.out; omega
          obtain ⟨k0, k1⟩ := HK.out (by omega)
          obtain ⟨kk, hkk0⟩ : ∃ kk : Nat, at_ l (a0 - 1) = kk := ⟨(at_ l (a0 - 1)).toNat, by omega⟩
          have hkk : kk ≤ 127 := by omega
          have HF : Hid (F0 = Fi (kk : Int) (sameB l a0)) := by unfold Hid; rw [← HF0.out, if_neg b0, hkk0]
          obtain ⟨c, rfl⟩ : ∃ c, a0 = c + 1 := ⟨a0 - 1, by omega⟩
          rw [Nat.add_sub_cancel] at hkk0
          obtain ⟨bl, ol, rfl, hcl⟩ := giv_at HL.out (i := c) (by rw [HBL.out]; omega)
          rw [hkk0] at hcl
          have hbz : ((c : Int) + 1 == 0) = false := by rw [beq_eq_false_iff_ne]; omega
          by_cases c0 : c = 0
          · subst c0
            have HSM : Hid (sameB l (0 + 1) = false) := rfl
            have hcl2 := grown_cell HG.out hcl (by simp)
            have HT := HT0
            clear HVL HF0 HA0 BRK0 BRKE HT0 hkk0 k0 k1 hcl hbz
            have z1 : decide ((1 : Int) < 1) = false := by decide
            go_wp2_with fail
            go_quiet (fail)
            clear z1
            obtain ⟨wq, hwq⟩ : ∃ wq, wr.drewN nq = wq := ⟨_, rfl⟩
            have HT : Hid (Tbl wq B D fun _ => 0) := by unfold Hid; rw [← hwq]; exact HT.out
            have HG : Hid (w.grownBy wq none) := by unfold Hid; rw [← hwq]; exact grown_drewN HG.out _
            have HR : Hid (wq.heap[gb]? = some (.cells #[.int .i64 low, .int .i64 high, .bool above, .int .i64 leap, .int .i64 classes] 23 (0, 0))) := by unfold Hid; rw [← hwq]; exact HR.out
            have hcl3 : wq.cell? ⟨bl, ol, none⟩ = some (.int .i64 (kk : Int)) := by rw [← hwq]; exact hcl2
            simp only [hwq]
            clear hwq hcl2
            have x0 := HT.out.row hkk
            have x1 := HT.out.c0 hkk
            have x2 := HT.out.free hkk 0
            go_wp2_with fail
            have HG4 : Hid (wq.grownBy (wq.setCell ⟨D + kk, 0, none⟩ (.int .i64 1)) (some (D + kk))) := grown_set (p := ⟨D + kk, 0, none⟩) (grown_refl wq (some (D + kk))) (.inl rfl) _
            go_meet
            refine ⟨rfl, (HT.out.set (t := 0) hkk (by omega) 1).imp (fun j b' hj => ?_), grown_own HG.out HG4.out (fun j h => by cases h; have := HGB.out; have := HGBB.out; have := HT.out.lt; unfold Hid at *; omega), ?_⟩
            · rw [HF.out]
              unfold Fi
              rw [HSM.out, show 2 * kk + 0 = 2 * kk from rfl, st_even]
            · unfold Hid
              rw [HG4.out.block gb (lt_of HR.out) (by have := HGBB.out; have := HT.out.lt; unfold Hid at *; simp; omega)]
              exact HR.out
          · obtain ⟨d, rfl⟩ : ∃ d, c = d + 1 := ⟨c - 1, by omega⟩
            obtain ⟨bl', ol', e, hcm⟩ := giv_at HL.out (i := d) (by rw [HBL.out]; omega)
            simp only [Option.some.injEq, Addr.mk.injEq, and_true] at e
            obtain ⟨rfl, rfl⟩ := e
            have HSM0 : Hid (sameB l (d + 1 + 1) = ((kk : Int) == at_ l d)) := by
              unfold Hid sameB
              rw [decide_eq_true (by omega), Bool.true_and, show d + 1 + 1 - 1 = d + 1 from rfl, show d + 1 + 1 - 2 = d from rfl, hkk0]
            obtain ⟨y, hy⟩ : ∃ y, at_ l d = y := ⟨_, rfl⟩
            rw [hy] at hcm HSM0
            have hcl2 := grown_cell HG.out hcl (by simp)
            have hcm2 := grown_cell HG.out hcm (by simp)
            have HT := HT0
            clear HVL HF0 HA0 BRK0 BRKE HT0 hkk0 k0 k1 hcl hcm hy c0
            have ei : IntKind.i64.wrap (((d : Int) + 1 + 1) - 1) = (d : Int) + 1 := by rw [IntWalk.i64_in _ (by omega)]; omega
            have ei2 : IntKind.i64.wrap (((d : Int) + 1 + 1) - 2) = (d : Int) := by rw [IntWalk.i64_in _ (by omega)]; omega
            have z1 : decide ((1 : Int) < (d : Int) + 1 + 1) = true := by simp; omega
            have z2 : (0 : Int) ≤ (d : Int) + 1 := by omega
            have z3 : (d : Int) + 1 < (d : Int) + 1 + 1 := by omega
            have z4 : (0 : Int) ≤ (d : Int) := by omega
            have z5 : (d : Int) < (d : Int) + 1 + 1 := by omega
            have z6 : ((d : Int) + 1).toNat = d + 1 := by omega
            go_wp2_with fail
            go_quiet (fail)
            clear z1 ei ei2
            obtain ⟨wq, hwq⟩ : ∃ wq, wr.drewN nq = wq := ⟨_, rfl⟩
            have HT : Hid (Tbl wq B D fun _ => 0) := by unfold Hid; rw [← hwq]; exact HT.out
            have HG : Hid (w.grownBy wq none) := by unfold Hid; rw [← hwq]; exact grown_drewN HG.out _
            have HR : Hid (wq.heap[gb]? = some (.cells #[.int .i64 low, .int .i64 high, .bool above, .int .i64 leap, .int .i64 classes] 23 (0, 0))) := by unfold Hid; rw [← hwq]; exact HR.out
            have hcl3 : wq.cell? ⟨bl, ol + (d + 1), none⟩ = some (.int .i64 (kk : Int)) := by rw [← hwq]; exact hcl2
            simp only [hwq]
            clear hwq hcl2 hcm2
            by_cases hyk : (kk : Int) = y
            · have HSM : Hid (sameB l (d + 1 + 1) = true) := by unfold Hid; rw [HSM0.out, hyk]; simp
              subst hyk
              clear HSM0
              have x0 := HT.out.row hkk
              have x1 := HT.out.c1 hkk
              have x2 := HT.out.free hkk 1
              go_wp2_with fail
              have HG4 : Hid (wq.grownBy (wq.setCell ⟨D + kk, 1, none⟩ (.int .i64 1)) (some (D + kk))) := grown_set (p := ⟨D + kk, 1, none⟩) (grown_refl wq (some (D + kk))) (.inl rfl) _
              go_meet
              refine ⟨rfl, (HT.out.set (t := 1) hkk (by omega) 1).imp (fun j b' hj => ?_), grown_own HG.out HG4.out (fun j h => by cases h; have := HGB.out; have := HGBB.out; have := HT.out.lt; unfold Hid at *; omega), ?_⟩
              · rw [HF.out]
                unfold Fi
                rw [HSM.out, st_odd]
              · unfold Hid
                rw [HG4.out.block gb (lt_of HR.out) (by have := HGBB.out; have := HT.out.lt; unfold Hid at *; simp; omega)]
                exact HR.out
            · have hyb : ((kk : Int) == y) = false := by simpa using hyk
              have HSM : Hid (sameB l (d + 1 + 1) = false) := by unfold Hid; rw [HSM0.out, hyb]
              clear HSM0
              have x0 := HT.out.row hkk
              have x1 := HT.out.c0 hkk
              have x2 := HT.out.free hkk 0
              go_wp2_with fail
              have HG4 : Hid (wq.grownBy (wq.setCell ⟨D + kk, 0, none⟩ (.int .i64 1)) (some (D + kk))) := grown_set (p := ⟨D + kk, 0, none⟩) (grown_refl wq (some (D + kk))) (.inl rfl) _
              go_meet
              refine ⟨rfl, (HT.out.set (t := 0) hkk (by omega) 1).imp (fun j b' hj => ?_), grown_own HG.out HG4.out (fun j h => by cases h; have := HGB.out; have := HGBB.out; have := HT.out.lt; unfold Hid at *; omega), ?_⟩
              · rw [HF.out]
                unfold Fi
                rw [HSM.out, show 2 * kk + 0 = 2 * kk from rfl, st_even]
              · unfold Hid
                rw [HG4.out.block gb (lt_of HR.out) (by have := HGBB.out; have := HT.out.lt; unfold Hid at *; simp; omega)]
                exact HR.out
      case rest =>
        obtain ⟨rfl, HT, HG, HR⟩ := hcut
        have HFC : Hid (∀ s, F0 s ≤ cap) := fun s => by
          rw [← HF0.out]
          split
          · exact Nat.le_trans (f1_le _ _ _) (by unfold cap; omega)
          · exact Nat.le_trans (fi_le _ _ _) (by unfold cap; omega)
        have HFT : Hid (a0 = 1 → ∀ k, F0 (k, true) = 0) := fun h k => by
          rw [← HF0.out]
          split
          · unfold F1; rw [if_neg (by simp)]
          · obtain rfl : b = 1 := by have := HA0.out; omega
            unfold Fi
            rw [if_neg (by simp [sameB])]
        clear HK HL BRK0 HF0 HA0
        go_wp2_with fail
        go_loopw [7, 9] (fun v7 v9 wr => ∃ (a B1 D1 : Nat) (F : St → Nat), 1 ≤ a ∧ a ≤ n ∧ v9 = .int .i64 (a : Int) ∧ v7 = .slice (some ⟨B1, 0, none⟩) 128 128 ∧ Hid (V = waysC rr g (n - a) a F) ∧ Hid (∀ s, F s ≤ cap) ∧ Hid (a = 1 → ∀ k, F (k, true) = 0) ∧ Hid (Tbl wr B1 D1 F) ∧
          Hid (w.grownBy wr none) ∧ Hid (wr.heap[gb]? = some (.cells #[.int .i64 low, .int .i64 high, .bool above, .int .i64 leap, .int .i64 classes] 23 (0, 0))) ∧ Hid (gb < B1)) (fun _ v9 _ => n - (intOf v9).toNat)
        case atStart => exact ⟨a0, B, D, F0, ha1, ha2, rfl, rfl, HVL.out, HFC.out, HFT.out, HT.out, HG.out, HR.out, HGBB.out⟩
        case round =>
          clear HFC HFT HT HG HR HVL HT0 HGBB HWS HBL ha1 ha2 hlt
          obtain ⟨a, B1, D1, F, ha1, ha2, rfl, rfl, HV, HFC, HFT, HT, HG, HR, HGB1⟩ := hrel
          by_cases hae : a = n
          · subst hae
            have HVS : Hid (V = min (S F 256) cap) := by unfold Hid; rw [HV.out, Nat.sub_self]; rfl
            clear HV HFT BRKE
            obtain ⟨wo, rfl⟩ : ∃ wo : World, wo = wr := ⟨_, rfl⟩
            go_wp2_with fail
            go_loopw [17, 166] (fun v17 v166 wr => ∃ k : Nat, k ≤ 128 ∧ v166 = .int .i64 (k : Int) ∧ v17 = .int .i64 ((min (S F (2 * k)) cap : Nat) : Int) ∧ Hid (wr = wo)) (fun _ v166 _ => 128 - (intOf v166).toNat)
            case atStart => exact ⟨0, by omega, rfl, rfl, rfl⟩
            case round =>
              obtain ⟨k, hk, rfl, rfl, HWO⟩ := hrel
              by_cases hke : k = 128
              · subst hke
                go_wp2_with fail
                go_ret
                refine ⟨?_, by have := HG.out; rw [← HWO.out] at this; exact this⟩
                rw [HVS.out]
                rfl
              have hkl : k ≤ 127 := by omega
              have hkl2 : (k : Int) < 128 := by omega
              have HT5 : Hid (Tbl wr B1 D1 F) := by unfold Hid; rw [HWO.out]; exact HT.out
              have x0 := HT5.out.row hkl
              have x1 := HT5.out.c0 hkl
              have x2 := HT5.out.c1 hkl
              have HS2 : Hid (min (S F (2 * (k + 1))) cap = min (min (min (S F (2 * k)) cap + F ((k : Int), false)) cap + F ((k : Int), true)) cap) := by
                unfold Hid
                rw [show 2 * (k + 1) = 2 * k + 1 + 1 from by omega, S, S, st_even, st_odd]
                omega
              have hf0 := HFC.out ((k : Int), false)
              have hf1 := HFC.out ((k : Int), true)
              obtain ⟨f0, hf0e⟩ : ∃ f0, F ((k : Int), false) = f0 := ⟨_, rfl⟩
              obtain ⟨f1, hf1e⟩ : ∃ f1, F ((k : Int), true) = f1 := ⟨_, rfl⟩
              rw [hf0e] at x1 HS2 hf0
              rw [hf1e] at x2 HS2 hf1
              obtain ⟨m, hm⟩ : ∃ m, min (S F (2 * k)) cap = m := ⟨_, rfl⟩
              have hmc : m ≤ cap := by rw [← hm]; exact Nat.min_le_right _ _
              rw [hm] at HS2
              simp only [hm]
              have hm1c : min (m + f0) cap ≤ cap := Nat.min_le_right _ _
              obtain ⟨m1, hm1⟩ : ∃ m1, min (m + f0) cap = m1 := ⟨_, rfl⟩
              unfold cap at hmc hf0 hf1
              have M0 := Lib.hid (fun w' => most_sum m f0 w' (by omega))
              rw [hm1] at M0 HS2 hm1c
              unfold cap at hm1c
              have M1 := Lib.hid (fun w' => most_sum m1 f1 w' (by omega))
              obtain ⟨m2, hm2⟩ : ∃ m2, min (m1 + f1) cap = m2 := ⟨_, rfl⟩
              rw [hm2] at M1 HS2
              clear hf0e hf1e hm hm1 hm2
              go_upto_region 49 with (go_at_call 30; refine (M0.out _).mono ?_; rintro e w' ⟨rfl, rfl⟩)
              go_wp2_with (go_at_call 30; refine (M1.out _).mono ?_; rintro e w' ⟨rfl, rfl⟩)
              refine ⟨⟨k + 1, by omega, rfl, by rw [HS2.out], HWO.out⟩, by simp only [intOf]; omega⟩
          have han : a < n := by omega
          obtain ⟨wo, rfl⟩ : ∃ wo : World, wo = wr := ⟨_, rfl⟩
          have HVN : Hid (V = waysC rr g (n - (a + 1)) (a + 1) (nF rr g a F 256)) := by unfold Hid; rw [HV.out, show n - a = (n - (a + 1)) + 1 from by omega]; rfl
          clear HV
          obtain ⟨B2, hB2⟩ : ∃ B2, wo.heap.size = B2 := ⟨_, rfl⟩
          have HB2 := Lib.hid hB2
          have hB12 : gb < B2 := by rw [← hB2]; exact lt_of HR.out
          have HTL := Lib.hid (HT.out.lt)
          clear hB2
          go_upto_region 23 with (at_make; refine wpList_make_full _ rfl _ _ 52 rfl B2 24 i0 (.slice none 0 0) 1 Try.underlying52 hi hz0 hz1 _ _ _ _ 128 rfl rfl (by rfl) (by rfl) (by rw [hz2]; omega) (by unfold maxLen; omega) (by rw [HB2.out]; exact Nat.le_refl _) ?_; intro w2 hown2 hg2; have HOW2 := Lib.hid hown2; have HG2 := Lib.hid hg2; clear hown2 hg2)
          rw [HB2.out] at HOW2
          simp only [HB2.out]
          have HK0 : Hid (TblK w2 B2 w2.heap.size 0) := TblK.made HB2.out HOW2.out
          obtain ⟨D2, hD2⟩ : ∃ D2, w2.heap.size = D2 := ⟨_, rfl⟩
          rw [hD2] at HK0
          clear HOW2 hD2
          go_wp2_with fail
          go_loopw [96] (fun v96 wr => ∃ k : Nat, k ≤ 128 ∧ v96 = .int .i64 (k : Int) ∧ Hid (TblK wr B2 D2 k) ∧ Hid (wo.grownBy wr none)) (fun v96 _ => 128 - (intOf v96).toNat)
          case atStart => exact ⟨0, by omega, rfl, HK0.out, HG2.out⟩
          case round =>
            clear HK0 HG2
            obtain ⟨k, hk, rfl, HTK, HGO⟩ := hrel
            by_cases hke : k = 128
            · subst hke
              have HT2 : Hid (Tbl wr B2 D2 (nF rr g a F 0)) := HTK.out.done.imp (fun j b hj => rfl)
              clear HTK
              go_wp2_with fail
              go_loopw [13] (fun v13 wr => ∃ k : Nat, k ≤ 128 ∧ v13 = .int .i64 (k : Int) ∧ Hid (Tbl wr B2 D2 (nF rr g a F (2 * k))) ∧ Hid (wo.grownBy wr none)) (fun v13 _ => 128 - (intOf v13).toNat)
              case atStart => exact ⟨0, by omega, rfl, HT2.out, HGO.out⟩
              case round =>
                clear HT2 HGO
                obtain ⟨k, hk, rfl, HT2, HGO⟩ := hrel
                by_cases hke : k = 128
                · have HT3 : Hid (Tbl wr B2 D2 (nF rr g a F 256)) := by unfold Hid; rw [show 256 = 2 * k from by omega]; exact HT2.out
                  have HG3 : Hid (w.grownBy wr none) := grown_trans HG.out HGO.out
                  have HR3 : Hid (wr.heap[gb]? = some (.cells #[.int .i64 low, .int .i64 high, .bool above, .int .i64 leap, .int .i64 classes] 23 (0, 0))) := by unfold Hid; rw [HGO.out.block gb (lt_of HR.out) (by simp)]; exact HR.out
                  subst hke
                  clear HT HT2 HGO HG HR HFC HFT BRKE
                  go_wp2_with fail
                  refine ⟨⟨a + 1, B2, D2, _, by omega, by omega, rfl, rfl, HVN.out, fun s => nF_le _ _ _ _ _ _, fun h => by omega, HT3.out, HG3.out, HR3.out, hB12⟩, by simp only [intOf]; omega⟩
                have hkl : k ≤ 127 := by omega
                have hkl2 : (k : Int) < 128 := by omega
                go_wp2_with fail
                go_loopw [14] (fun v14 wr => ∃ t : Nat, t ≤ 2 ∧ v14 = .int .i64 (t : Int) ∧ Hid (Tbl wr B2 D2 (nF rr g a F (2 * k + t))) ∧ Hid (wo.grownBy wr none)) (fun v14 _ => 2 - (intOf v14).toNat)
                case atStart => exact ⟨0, by omega, rfl, HT2.out, HGO.out⟩
                case round =>
                  clear HT2 HGO
                  obtain ⟨t, ht, rfl, HT2, HGO⟩ := hrel
                  by_cases hte : t = 2
                  · subst hte
                    go_wp2_with fail
                    refine ⟨?_, by simp [intOf]; omega⟩
                    first
                      | exact ⟨k + 1, by omega, rfl, HT2.out, HGO.out⟩
                      | (repeat apply Exists.intro
                         refine ⟨?_, rfl⟩
                         exact ⟨k + 1, by omega, rfl, HT2.out, HGO.out⟩)
                  have htl : t < 2 := by omega
                  have htl2 : (t : Int) < 2 := by omega
                  have HTW : Hid (Tbl wr B1 D1 F) := HT.out.kept HGO.out (fun j h => by cases h)
                  have x0 := HTW.out.row hkl
                  have x1 := HTW.out.ct hkl htl
                  have HFB := Lib.hid (HFC.out (st (2 * k + t)))
                  have HRW : Hid (wr.heap[gb]? = some (.cells #[.int .i64 low, .int .i64 high, .bool above, .int .i64 leap, .int .i64 classes] 23 (0, 0))) := by unfold Hid; rw [HGO.out.block gb (lt_of HR.out) (by simp)]; exact HR.out
                  obtain ⟨f, hf⟩ : ∃ f, F (st (2 * k + t)) = f := ⟨_, rfl⟩
                  have HFF := Lib.hid hf
                  rw [hf] at x1 HFB
                  clear hf
                  by_cases hf0 : f = 0
                  · subst hf0
                    have HT3 : Hid (Tbl wr B2 D2 (nF rr g a F (2 * k + (t + 1)))) := HT2.out.imp (fun j b' hj => by rw [show 2 * k + (t + 1) = 2 * k + t + 1 from rfl, nF_same (cF_zero HFF.out)])
                    go_wp2_with fail
                    refine ⟨?_, by simp [intOf]; omega⟩
                    first
                      | exact ⟨t + 1, by omega, rfl, HT3.out, HGO.out⟩
                      | (repeat apply Exists.intro
                         refine ⟨?_, rfl⟩
                         exact ⟨t + 1, by omega, rfl, HT3.out, HGO.out⟩)
                  have hfb : ((f : Int) == 0) = false := by rw [beq_eq_false_iff_ne]; omega
                  have HAT : Hid (2 ≤ a ∨ t = 0) := by
                    unfold Hid
                    by_cases h2 : 2 ≤ a
                    · exact .inl h2
                    · refine .inr ?_
                      have h1 := HFT.out (by omega)
                      have : t = 0 ∨ t = 1 := by omega
                      rcases this with h | h
                      · exact h
                      · subst h
                        have := h1 (k : Int)
                        rw [← st_odd, HFF.out] at this
                        exact absurd this hf0
                  have r0 := cell_of HRW.out 0
                  go_wp2_with fail
                  clear r0 x0 x1
                  have HW : Hid (∀ j b', (j : Int) < low → nF rr g a F (2 * k + t) ((j : Int), b') = nF rr g a F (2 * k + t + 1) ((j : Int), b')) := fun j b' hj => (nF_same (cF_no (.inl (fun h => by have := alone_range h; rw [← HRR.out] at this; simp only at this; omega)) (by rw [HN.out]; exact han))).symm
                  have HWU : Hid (∀ j b', high < (j : Int) → nF rr g a F (2 * k + t) ((j : Int), b') = nF rr g a F (2 * k + t + 1) ((j : Int), b')) := fun j b' hj => (nF_same (cF_no (.inl (fun h => by have := alone_range h; rw [← HRR.out] at this; simp only at this; omega)) (by rw [HN.out]; exact han))).symm
                  obtain ⟨lo, hlo⟩ : ∃ lo : Nat, low = lo := ⟨low.toNat, by omega⟩
                  have HLO := Lib.hid hlo
                  clear hlo
                  go_loopw [15] (fun v15 wr => ∃ K : Nat, low ≤ (K : Int) ∧ (K : Int) ≤ high + 1 ∧ v15 = .int .i64 (K : Int) ∧ Hid (Tbl wr B2 D2 (fun s => if s.1 < (K : Int) then nF rr g a F (2 * k + t + 1) s else nF rr g a F (2 * k + t) s)) ∧ Hid (wo.grownBy wr none)) (fun v15 _ => (high + 1 - intOf v15).toNat)
                  case atStart =>
                    refine ⟨lo, by rw [HLO.out]; exact Int.le_refl _, by rw [← HLO.out]; omega, by rw [HLO.out], HT2.out.imp (fun j b' hj => ?_), HGO.out⟩
                    by_cases h : (j : Int) < (lo : Int)
                    · rw [if_pos h, HW.out j b' (by rw [HLO.out]; exact h)]
                    · rw [if_neg h]
                  case round =>
                    clear HT2 HGO HTW HRW
                    obtain ⟨K, hK0, hK1, rfl, HT2, HGO⟩ := hrel
                    have HRW : Hid (wr.heap[gb]? = some (.cells #[.int .i64 low, .int .i64 high, .bool above, .int .i64 leap, .int .i64 classes] 23 (0, 0))) := by unfold Hid; rw [HGO.out.block gb (lt_of HR.out) (by simp)]; exact HR.out
                    have r0 := cell_of HRW.out 0
                    have r1 := cell_of HRW.out 1
                    by_cases hKe : (K : Int) = high + 1
                    · have HT3 : Hid (Tbl wr B2 D2 (nF rr g a F (2 * k + (t + 1)))) := HT2.out.imp (fun j b' hj => by
                        by_cases h : (j : Int) < (K : Int)
                        · rw [if_pos h]; rfl
                        · rw [if_neg h]; exact HWU.out j b' (by omega))
                      rw [hKe]
                      go_wp2_with fail
                      refine ⟨?_, by simp [intOf]; omega⟩
                      first
                        | exact ⟨t + 1, by omega, rfl, HT3.out, HGO.out⟩
                        | (repeat apply Exists.intro
                           refine ⟨?_, rfl⟩
                           exact ⟨t + 1, by omega, rfl, HT3.out, HGO.out⟩)
                    have hK2 : (K : Int) ≤ high := by omega
                    have hKl : K ≤ 127 := by omega
                    go_upto_region 38 with fail
                    clear r0 r1
                    obtain ⟨wk, rfl⟩ : ∃ wk : World, wk = wr := ⟨_, rfl⟩
                    have HGK : Hid (w.grownBy wk none) := grown_trans HG.out HGO.out
                    have hne := Mixed.Later.nonempty wk
                    have k0 : ∀ n : Mixed.Later wk, n.w.cell? ⟨gb, 0, none⟩ = some (.int .i64 low) := Mixed.Later.cell (cell_of HRW.out 0)
                    have k1 : ∀ n : Mixed.Later wk, n.w.cell? ⟨gb, 1, none⟩ = some (.int .i64 high) := Mixed.Later.cell (cell_of HRW.out 1)
                    have k2 : ∀ n : Mixed.Later wk, n.w.cell? ⟨gb, 2, none⟩ = some (.bool above) := Mixed.Later.cell (cell_of HRW.out 2)
                    have k3 : ∀ n : Mixed.Later wk, n.w.cell? ⟨gb, 3, none⟩ = some (.int .i64 leap) := Mixed.Later.cell (cell_of HRW.out 3)
                    have k4 : ∀ n : Mixed.Later wk, n.w.cell? ⟨gb, 4, none⟩ = some (.int .i64 classes) := Mixed.Later.cell (cell_of HRW.out 4)
                    obtain ⟨BR, hBR⟩ : ∃ BR, (if aloneZ rr g a (K : Int) = 0 then behindZ rr g a (K : Int) (k : Int) (decide (2 ≤ a) && decide (t = 1)) else aloneZ rr g a (K : Int)) = BR := ⟨_, rfl⟩
                    have HBR := Lib.hid hBR
                    clear hBR
                    go_cut [137] from 122 to 162 (fun c wx => c = .bool (BR != 0) ∧ Hid (wk.grownBy wx none))
                    case first =>
                      refine Mixed.wp_region_mixed (Mixed.late wk) (fun k => k == 6 || k == 8) (by kernel_rfl) (by kernel_rfl) (Mixed.late_of (grown_drew (grown_refl _ _))) ?_
                      unfold Mixed.late
                      refine Mixed.wpM_quiet rfl rfl rfl ?_; intro Kx hKx; go_big_quiet_op; go_big_quiet_on
                      refine Mixed.wpM_quiet rfl rfl rfl ?_; intro Kx hKx; go_big_quiet_op; go_big_quiet_on
                      refine Mixed.wpM_quiet rfl rfl rfl ?_; intro Kx hKx; go_big_quiet_op; go_big_quiet_on
                      refine Mixed.wpM_quiet rfl rfl rfl ?_; intro Kx hKx; go_big_quiet_op; go_big_quiet_on
                      refine Mixed.wpM_quiet rfl rfl rfl ?_; intro Kx hKx; go_big_quiet_op; go_big_quiet_on
                      refine Mixed.wpM_quiet rfl rfl rfl ?_; intro Kx hKx; go_big_quiet_op; go_big_quiet_on
                      refine Mixed.wpM_call rfl rfl 29 _ (by go_simp; rfl) ?_
                      refine (ended_calls a (k : Int) t (K : Int) _ ⟨ha1, by omega⟩ ⟨by omega, by omega⟩ ⟨by omega, by omega⟩ htl).mono ?_
                      rintro e w5 ⟨eb, rfl, hei, hg5⟩
                      have HG5 : Hid (wk.grownBy w5 none) := grown_trans (grown_drew (grown_refl _ _)) hg5.out
                      refine ⟨_, rfl, ⟨⟨w5, HG5.out⟩, rfl⟩, ?_⟩
                      go_simp
                      refine Mixed.wpM_quiet rfl rfl rfl ?_; intro Kx hKx; go_big_quiet_op; go_big_quiet_on
                      refine Mixed.wpM_call rfl rfl 21 _ (by go_simp; rfl) ?_
                      refine (BRKE.out a (k : Int) t (K : Int) _ eb ha1 han ⟨by omega, by omega⟩ ⟨by omega, by omega⟩ (grown_trans HGK.out HG5.out) hei.out).mono ?_
                      rintro e w6 ⟨rfl, hg6⟩
                      rw [HBR.out]
                      have HG6 : Hid (wk.grownBy w6 none) := grown_trans HG5.out hg6.out
                      refine ⟨_, rfl, ⟨⟨w6, HG6.out⟩, rfl⟩, ?_⟩
                      go_simp
                      refine Mixed.wpM_quiet rfl rfl rfl ?_; intro Kx hKx; go_big_quiet_op; go_big_quiet_on
                      refine Mixed.wpM_nil ?_
                      intro nx hnx
                      clear nx hnx k0 k1 k2 k3 k4 hne
                      go_wp2_with fail
                      go_meet
                      exact ⟨rfl, HG6.out⟩
                    case rest =>
                      obtain ⟨rfl, HGC⟩ := hcut
                      clear k0 k1 k2 k3 k4 hne
                      have HGX : Hid (wk.grownBy wc none) := HGC
                      obtain ⟨wx, rfl⟩ : ∃ wx : World, wx = wc := ⟨_, rfl⟩
                      have HT3 := Lib.hid (HT2.out.kept HGX.out (fun j h => by cases h))
                      have HGO3 : Hid (wo.grownBy wx none) := grown_trans HGO.out HGX.out
                      have HTW : Hid (Tbl wx B1 D1 F) := HT.out.kept HGO3.out (fun j h => by cases h)
                      have HSM : Hid ((decide (2 ≤ a) && decide (t = 1)) = decide (t = 1)) := by
                        unfold Hid
                        rcases HAT.out with h | h
                        · rw [decide_eq_true h, Bool.true_and]
                        · rw [h]; simp
                      rw [HSM.out] at HBR
                      clear HT2 HGO HGX HGC HRW HGK HSM
                      by_cases hbr : BR = 0
                      · subst hbr
                        have HAB : Hid (aloneZ rr g a (K : Int) = 0 ∧ behindZ rr g a (K : Int) (k : Int) (decide (t = 1)) = 0) := by
                          have := HBR.out
                          by_cases h : aloneZ rr g a (K : Int) = 0
                          · rw [if_pos h] at this; exact ⟨h, this⟩
                          · rw [if_neg h] at this; exact absurd this h
                        have HCY : Hid (cF rr g a F ((K : Int), decide ((K : Int) = (k : Int))) (st (2 * k + t)) = F (st (2 * k + t))) := by
                          unfold Hid
                          rw [st_of htl]
                          exact cF_yes (s := ((k : Int), decide (t = 1))) HAB.out.1 HAB.out.2 (by rw [HN.out]; exact han)
                        have HCN : Hid (cF rr g a F ((K : Int), !decide ((K : Int) = (k : Int))) (st (2 * k + t)) = 0) := by
                          unfold Hid
                          rw [st_of htl]
                          exact cF_other (by simp)
                        clear HBR HAB
                        by_cases hKk : K = k
                        · rw [decide_eq_true (by rw [hKk])] at HCY HCN
                          have hKb : ((K : Int) == (k : Int)) = true := by rw [beq_iff_eq, hKk]
                          have HKK := Lib.hid hKk
                          clear hKk
                          go_upto_region 42 with fail
                          have y0 : wx.cell? ⟨B2, K, none⟩ = some (.slice (some ⟨D2 + K, 0, none⟩) 2 2) := HT3.out.row hKl
                          have y1 := HT3.out.ct hKl (t := 1) (by omega)
                          have y2 := HT3.out.free hKl 1
                          have z0 := HTW.out.row hkl
                          have z1 := HTW.out.ct hkl htl
                          have HNV := Lib.hid (show (if (st (2 * K + 1)).1 < (K : Int) then nF rr g a F (2 * k + t + 1) (st (2 * K + 1)) else nF rr g a F (2 * k + t) (st (2 * K + 1))) = nF rr g a F (2 * k + t) ((K : Int), true) from by rw [st_odd, if_neg (by simp only; omega)])
                          rw [HNV.out] at y1
                          rw [HFF.out] at z1
                          have hnc := nF_le rr g a F (2 * k + t) ((K : Int), true)
                          have hstep := nF_step rr g a F (2 * k + t) ((K : Int), true)
                          rw [HCY.out, HFF.out] at hstep
                          obtain ⟨nv, hnv⟩ : ∃ nv, nF rr g a F (2 * k + t) ((K : Int), true) = nv := ⟨_, rfl⟩
                          rw [hnv] at y1 hnc hstep
                          have hfc := HFB.out
                          unfold cap at hnc hfc
                          have M0 := Lib.hid (fun w' => most_sum nv f w' (by omega))
                          obtain ⟨nw, hnw⟩ : ∃ nw, min (nv + f) cap = nw := ⟨_, rfl⟩
                          rw [hnw] at M0 hstep
                          have HSTEP := Lib.hid hstep
                          have hD2 : B2 < D2 := HT3.out.lt.1
                          have HBD2 : Hid (D1 + 127 < wo.heap.size ∧ B1 < D1) := ⟨HTL.out.2, HTL.out.1⟩
                          have hBB : wo.heap.size = B2 := HB2.out
                          have hB1a := HBD2.out
                          have hnb : B1 ≠ D2 + K ∧ D1 + k ≠ D2 + K ∧ B2 ≠ D2 + K ∧ gb ≠ D2 + K := by omega
                          have HNB := Lib.hid hnb
                          have HBB := Lib.hid hBB
                          clear hnv hnw hstep hBB hB1a hnb HNV
                          have hne : Nonempty (LateR wx (some (D2 + K))) := ⟨⟨wx, grown_refl _ _⟩⟩
                          have k0 : ∀ n : LateR wx (some (D2 + K)), n.w'.cell? ⟨B2, K, none⟩ = some (.slice (some ⟨D2 + K, 0, none⟩) 2 2) := fun n => grown_cell n.h y0 (by have := HNB.out; unfold Hid at this; simp; omega)
                          have k1 : ∀ n : LateR wx (some (D2 + K)), n.w'.cell? ⟨B1, k, none⟩ = some (.slice (some ⟨D1 + k, 0, none⟩) 2 2) := fun n => grown_cell n.h z0 (by have := HNB.out; unfold Hid at this; simp; omega)
                          have k2 : ∀ n : LateR wx (some (D2 + K)), n.w'.cell? ⟨D1 + k, t, none⟩ = some (.int .i64 (f : Int)) := fun n => grown_cell n.h z1 (by have := HNB.out; unfold Hid at this; simp; omega)
                          have hii : (K : Int) < 128 := by omega
                          have hi0 : (0 : Int) ≤ (K : Int) := by omega
                          have hi1 : (0 : Int) ≤ (k : Int) := by omega
                          have hi2 : (0 : Int) ≤ (t : Int) := by omega
                          have e1 : IntKind.i64.wrap ((nv : Int) + (f : Int)) = (nv : Int) + (f : Int) := IntWalk.i64_in _ (by omega)
                          refine Mixed.wp_region_mixed (lateR wx (some (D2 + K))) (fun k => k == 11 || k == 20 || k == 22) (by kernel_rfl) (by kernel_rfl) (lateR_of (grown_drew (grown_refl _ _))) ?_
                          unfold lateR
                          obtain ⟨wd, hwd⟩ : ∃ wd, wx.drew = wd := ⟨_, rfl⟩
                          have HWD : Hid (wx.grownBy wd none) := by unfold Hid; rw [← hwd]; exact grown_drew (grown_refl _ _)
                          have HWD2 : Hid (wx.grownBy wd (some (D2 + K))) := grown_none HWD.out _
                          have y1 := grown_cell HWD.out y1 (by simp)
                          have y2 : wd.frozen? ⟨D2 + K, 1, none⟩ = false := by rw [← hwd]; exact y2
                          have HT5 := Lib.hid (HT3.out.kept HWD.out (fun j h => by cases h))
                          simp only [hwd]
                          clear hwd
                          refine Mixed.wpM_quiet rfl rfl rfl ?_; intro Kx hKx; go_big_quiet_op; go_big_quiet_on
                          refine Mixed.wpM_quiet rfl rfl rfl ?_; intro Kx hKx; go_big_quiet_op; go_big_quiet_on
                          refine Mixed.wpM_quiet rfl rfl rfl ?_; intro Kx hKx; go_big_quiet_op; go_big_quiet_on
                          refine Mixed.wpM_quiet rfl rfl rfl ?_; intro Kx hKx; go_big_quiet_op; go_big_quiet_on
                          refine Mixed.wpM_quiet rfl rfl rfl ?_; intro Kx hKx; go_big_quiet_op; go_big_quiet_on
                          refine Mixed.wpM_quiet rfl rfl rfl ?_; intro Kx hKx; go_big_quiet_op; go_big_quiet_on
                          refine Mixed.wpM_quiet rfl rfl rfl ?_; intro Kx hKx; go_big_quiet_op; go_big_quiet_on
                          refine Mixed.wpM_quiet rfl rfl rfl ?_; intro Kx hKx; go_big_quiet_op; go_big_quiet_on
                          refine Mixed.wpM_quiet rfl rfl rfl ?_; intro Kx hKx; go_big_quiet_op; go_big_quiet_on
                          refine Mixed.wpM_quiet rfl rfl rfl ?_; intro Kx hKx; go_big_quiet_op; go_big_quiet_on
                          refine Mixed.wpM_quiet rfl rfl rfl ?_; intro Kx hKx; go_big_quiet_op; go_big_quiet_on
                          refine Mixed.wpM_make rfl rfl (.int .i64 (nv : Int)) wd (by go_simp) ⟨⟨wd, HWD2.out⟩, rfl⟩ ?_
                          go_simp
                          refine Mixed.wpM_quiet rfl rfl rfl ?_; intro Kx hKx; go_big_quiet_op; go_big_quiet_on
                          refine Mixed.wpM_quiet rfl rfl rfl ?_; intro Kx hKx; go_big_quiet_op; go_big_quiet_on
                          refine Mixed.wpM_quiet rfl rfl rfl ?_; intro Kx hKx; go_big_quiet_op; go_big_quiet_on
                          refine Mixed.wpM_quiet rfl rfl rfl ?_; intro Kx hKx; go_big_quiet_op; go_big_quiet_on
                          refine Mixed.wpM_quiet rfl rfl rfl ?_; intro Kx hKx; go_big_quiet_op; go_big_quiet_on
                          refine Mixed.wpM_quiet rfl rfl rfl ?_; intro Kx hKx; go_big_quiet_op; go_big_quiet_on
                          refine Mixed.wpM_quiet rfl rfl rfl ?_; intro Kx hKx; go_big_quiet_op; go_big_quiet_on
                          refine Mixed.wpM_quiet rfl rfl rfl ?_; intro Kx hKx; go_big_quiet_op; go_big_quiet_on
                          refine Mixed.wpM_call rfl rfl 30 _ (by go_simp; rfl) ?_
                          refine (M0.out _).mono ?_
                          rintro e w5 ⟨rfl, hw5⟩
                          have hw5 := hw5.symm
                          subst hw5
                          refine ⟨_, rfl, ⟨⟨wd, HWD2.out⟩, rfl⟩, ?_⟩
                          go_simp
                          refine Mixed.wpM_quiet rfl rfl rfl ?_; intro Kx hKx; go_big_quiet_op; go_big_quiet_on
                          have HG7 : Hid (wd.grownBy (wd.setCell ⟨D2 + K, 1, none⟩ (.int .i64 (nw : Int))) (some (D2 + K))) := grown_set (p := ⟨D2 + K, 1, none⟩) (grown_refl _ _) (.inl rfl) _
                          have HT6 := Lib.hid (HT5.out.set (k := K) (t := 1) hKl (by omega) nw)
                          obtain ⟨wz, hwz⟩ : ∃ wz, wd.setCell ⟨D2 + K, 1, none⟩ (.int .i64 (nw : Int)) = wz := ⟨_, rfl⟩
                          refine wpM_store rfl rfl wz (by rw [← hwz]; go_simp) ⟨⟨wz, grown_trans HWD2.out (by have := HG7.out; rw [hwz] at this; exact this)⟩, rfl⟩ ?_
                          rw [hwz] at HT6 HG7
                          have HGO6 : Hid (wo.grownBy wz none) := grown_own (grown_trans HGO3.out HWD.out) HG7.out (fun j h => by cases h; rw [HBB.out]; omega)
                          have HT7 : Hid (Tbl wz B2 D2 (fun s => if s.1 < ((K + 1 : Nat) : Int) then nF rr g a F (2 * k + t + 1) s else nF rr g a F (2 * k + t) s)) := HT6.out.imp (fun j b' hj => by
                            rw [st_odd]
                            by_cases hj2 : j = K
                            · subst hj2
                              by_cases hb' : b' = true
                              · subst hb'
                                rw [if_pos rfl, if_pos (by simp only; omega), HSTEP.out]
                              · have hb2 : b' = false := by cases b' <;> simp_all
                                subst hb2
                                rw [if_neg (by simp), if_neg (by simp only; omega), if_pos (by simp only; omega)]
                                exact (nF_same HCN.out).symm
                            · rw [if_neg (by simp only [Prod.mk.injEq]; omega)]
                              by_cases hj3 : j < K
                              · rw [if_pos (by simp only; omega), if_pos (by simp only; omega)]
                              · rw [if_neg (by simp only; omega), if_neg (by simp only; omega)])
                          refine Mixed.wpM_nil ?_
                          intro nx hnx
                          clear nx hnx k0 k1 k2 hne y0 y1 y2 z0 z1 e1 hwz HT6 HG7 HT5 HWD HWD2 HT3 HTW
                          go_wp2_with fail
                          refine ⟨?_, by simp [intOf]; omega⟩
                          first
                            | exact ⟨K + 1, by omega, by omega, by omega, HT7.out⟩
                            | exact ⟨K + 1, by omega, by omega, rfl, HT7.out, HGO6.out⟩
                            | (repeat apply Exists.intro
                               refine ⟨?_, rfl⟩
                               exact ⟨K + 1, by omega, by omega, rfl, HT7.out, HGO6.out⟩)
                        · rw [decide_eq_false (by omega)] at HCY HCN
                          have hKb : ((K : Int) == (k : Int)) = false := by rw [beq_eq_false_iff_ne]; omega
                          go_upto_region 42 with fail
                          have y0 : wx.cell? ⟨B2, K, none⟩ = some (.slice (some ⟨D2 + K, 0, none⟩) 2 2) := HT3.out.row hKl
                          have y1 := HT3.out.ct hKl (t := 0) (by omega)
                          have y2 := HT3.out.free hKl 0
                          have z0 := HTW.out.row hkl
                          have z1 := HTW.out.ct hkl htl
                          have HNV := Lib.hid (show (if (st (2 * K + 0)).1 < (K : Int) then nF rr g a F (2 * k + t + 1) (st (2 * K + 0)) else nF rr g a F (2 * k + t) (st (2 * K + 0))) = nF rr g a F (2 * k + t) ((K : Int), false) from by rw [show 2 * K + 0 = 2 * K from rfl, st_even, if_neg (by simp only; omega)])
                          rw [HNV.out] at y1
                          rw [HFF.out] at z1
                          have hnc := nF_le rr g a F (2 * k + t) ((K : Int), false)
                          have hstep := nF_step rr g a F (2 * k + t) ((K : Int), false)
                          rw [HCY.out, HFF.out] at hstep
                          obtain ⟨nv, hnv⟩ : ∃ nv, nF rr g a F (2 * k + t) ((K : Int), false) = nv := ⟨_, rfl⟩
                          rw [hnv] at y1 hnc hstep
                          have hfc := HFB.out
                          unfold cap at hnc hfc
                          have M0 := Lib.hid (fun w' => most_sum nv f w' (by omega))
                          obtain ⟨nw, hnw⟩ : ∃ nw, min (nv + f) cap = nw := ⟨_, rfl⟩
                          rw [hnw] at M0 hstep
                          have HSTEP := Lib.hid hstep
                          have hD2 : B2 < D2 := HT3.out.lt.1
                          have HBD2 : Hid (D1 + 127 < wo.heap.size ∧ B1 < D1) := ⟨HTL.out.2, HTL.out.1⟩
                          have hBB : wo.heap.size = B2 := HB2.out
                          have hB1a := HBD2.out
                          have hnb : B1 ≠ D2 + K ∧ D1 + k ≠ D2 + K ∧ B2 ≠ D2 + K ∧ gb ≠ D2 + K := by omega
                          have HNB := Lib.hid hnb
                          have HBB := Lib.hid hBB
                          clear hnv hnw hstep hBB hB1a hnb HNV
                          have hne : Nonempty (LateR wx (some (D2 + K))) := ⟨⟨wx, grown_refl _ _⟩⟩
                          have k0 : ∀ n : LateR wx (some (D2 + K)), n.w'.cell? ⟨B2, K, none⟩ = some (.slice (some ⟨D2 + K, 0, none⟩) 2 2) := fun n => grown_cell n.h y0 (by have := HNB.out; unfold Hid at this; simp; omega)
                          have k1 : ∀ n : LateR wx (some (D2 + K)), n.w'.cell? ⟨B1, k, none⟩ = some (.slice (some ⟨D1 + k, 0, none⟩) 2 2) := fun n => grown_cell n.h z0 (by have := HNB.out; unfold Hid at this; simp; omega)
                          have k2 : ∀ n : LateR wx (some (D2 + K)), n.w'.cell? ⟨D1 + k, t, none⟩ = some (.int .i64 (f : Int)) := fun n => grown_cell n.h z1 (by have := HNB.out; unfold Hid at this; simp; omega)
                          have hii : (K : Int) < 128 := by omega
                          have hi0 : (0 : Int) ≤ (K : Int) := by omega
                          have hi1 : (0 : Int) ≤ (k : Int) := by omega
                          have hi2 : (0 : Int) ≤ (t : Int) := by omega
                          have e1 : IntKind.i64.wrap ((nv : Int) + (f : Int)) = (nv : Int) + (f : Int) := IntWalk.i64_in _ (by omega)
                          refine Mixed.wp_region_mixed (lateR wx (some (D2 + K))) (fun k => k == 11 || k == 20 || k == 22) (by kernel_rfl) (by kernel_rfl) (lateR_of (grown_drew (grown_refl _ _))) ?_
                          unfold lateR
                          obtain ⟨wd, hwd⟩ : ∃ wd, wx.drew = wd := ⟨_, rfl⟩
                          have HWD : Hid (wx.grownBy wd none) := by unfold Hid; rw [← hwd]; exact grown_drew (grown_refl _ _)
                          have HWD2 : Hid (wx.grownBy wd (some (D2 + K))) := grown_none HWD.out _
                          have y1 := grown_cell HWD.out y1 (by simp)
                          have y2 : wd.frozen? ⟨D2 + K, 0, none⟩ = false := by rw [← hwd]; exact y2
                          have HT5 := Lib.hid (HT3.out.kept HWD.out (fun j h => by cases h))
                          simp only [hwd]
                          clear hwd
                          refine Mixed.wpM_quiet rfl rfl rfl ?_; intro Kx hKx; go_big_quiet_op; go_big_quiet_on
                          refine Mixed.wpM_quiet rfl rfl rfl ?_; intro Kx hKx; go_big_quiet_op; go_big_quiet_on
                          refine Mixed.wpM_quiet rfl rfl rfl ?_; intro Kx hKx; go_big_quiet_op; go_big_quiet_on
                          refine Mixed.wpM_quiet rfl rfl rfl ?_; intro Kx hKx; go_big_quiet_op; go_big_quiet_on
                          refine Mixed.wpM_quiet rfl rfl rfl ?_; intro Kx hKx; go_big_quiet_op; go_big_quiet_on
                          refine Mixed.wpM_quiet rfl rfl rfl ?_; intro Kx hKx; go_big_quiet_op; go_big_quiet_on
                          refine Mixed.wpM_quiet rfl rfl rfl ?_; intro Kx hKx; go_big_quiet_op; go_big_quiet_on
                          refine Mixed.wpM_quiet rfl rfl rfl ?_; intro Kx hKx; go_big_quiet_op; go_big_quiet_on
                          refine Mixed.wpM_quiet rfl rfl rfl ?_; intro Kx hKx; go_big_quiet_op; go_big_quiet_on
                          refine Mixed.wpM_quiet rfl rfl rfl ?_; intro Kx hKx; go_big_quiet_op; go_big_quiet_on
                          refine Mixed.wpM_quiet rfl rfl rfl ?_; intro Kx hKx; go_big_quiet_op; go_big_quiet_on
                          refine Mixed.wpM_make rfl rfl (.int .i64 (nv : Int)) wd (by go_simp) ⟨⟨wd, HWD2.out⟩, rfl⟩ ?_
                          go_simp
                          refine Mixed.wpM_quiet rfl rfl rfl ?_; intro Kx hKx; go_big_quiet_op; go_big_quiet_on
                          refine Mixed.wpM_quiet rfl rfl rfl ?_; intro Kx hKx; go_big_quiet_op; go_big_quiet_on
                          refine Mixed.wpM_quiet rfl rfl rfl ?_; intro Kx hKx; go_big_quiet_op; go_big_quiet_on
                          refine Mixed.wpM_quiet rfl rfl rfl ?_; intro Kx hKx; go_big_quiet_op; go_big_quiet_on
                          refine Mixed.wpM_quiet rfl rfl rfl ?_; intro Kx hKx; go_big_quiet_op; go_big_quiet_on
                          refine Mixed.wpM_quiet rfl rfl rfl ?_; intro Kx hKx; go_big_quiet_op; go_big_quiet_on
                          refine Mixed.wpM_quiet rfl rfl rfl ?_; intro Kx hKx; go_big_quiet_op; go_big_quiet_on
                          refine Mixed.wpM_quiet rfl rfl rfl ?_; intro Kx hKx; go_big_quiet_op; go_big_quiet_on
                          refine Mixed.wpM_call rfl rfl 30 _ (by go_simp; rfl) ?_
                          refine (M0.out _).mono ?_
                          rintro e w5 ⟨rfl, hw5⟩
                          have hw5 := hw5.symm
                          subst hw5
                          refine ⟨_, rfl, ⟨⟨wd, HWD2.out⟩, rfl⟩, ?_⟩
                          go_simp
                          refine Mixed.wpM_quiet rfl rfl rfl ?_; intro Kx hKx; go_big_quiet_op; go_big_quiet_on
                          have HG7 : Hid (wd.grownBy (wd.setCell ⟨D2 + K, 0, none⟩ (.int .i64 (nw : Int))) (some (D2 + K))) := grown_set (p := ⟨D2 + K, 0, none⟩) (grown_refl _ _) (.inl rfl) _
                          have HT6 := Lib.hid (HT5.out.set (k := K) (t := 0) hKl (by omega) nw)
                          obtain ⟨wz, hwz⟩ : ∃ wz, wd.setCell ⟨D2 + K, 0, none⟩ (.int .i64 (nw : Int)) = wz := ⟨_, rfl⟩
                          refine wpM_store rfl rfl wz (by rw [← hwz]; go_simp) ⟨⟨wz, grown_trans HWD2.out (by have := HG7.out; rw [hwz] at this; exact this)⟩, rfl⟩ ?_
                          rw [hwz] at HT6 HG7
                          have HGO6 : Hid (wo.grownBy wz none) := grown_own (grown_trans HGO3.out HWD.out) HG7.out (fun j h => by cases h; rw [HBB.out]; omega)
                          have HT7 : Hid (Tbl wz B2 D2 (fun s => if s.1 < ((K + 1 : Nat) : Int) then nF rr g a F (2 * k + t + 1) s else nF rr g a F (2 * k + t) s)) := HT6.out.imp (fun j b' hj => by
                            rw [show 2 * K + 0 = 2 * K from rfl, st_even]
                            by_cases hj2 : j = K
                            · subst hj2
                              by_cases hb' : b' = false
                              · subst hb'
                                rw [if_pos rfl, if_pos (by simp only; omega), HSTEP.out]
                              · have hb2 : b' = true := by cases b' <;> simp_all
                                subst hb2
                                rw [if_neg (by simp), if_neg (by simp only; omega), if_pos (by simp only; omega)]
                                exact (nF_same HCN.out).symm
                            · rw [if_neg (by simp only [Prod.mk.injEq]; omega)]
                              by_cases hj3 : j < K
                              · rw [if_pos (by simp only; omega), if_pos (by simp only; omega)]
                              · rw [if_neg (by simp only; omega), if_neg (by simp only; omega)])
                          refine Mixed.wpM_nil ?_
                          intro nx hnx
                          clear nx hnx k0 k1 k2 hne y0 y1 y2 z0 z1 e1 hwz HT6 HG7 HT5 HWD HWD2 HT3 HTW
                          go_wp2_with fail
                          refine ⟨?_, by simp [intOf]; omega⟩
                          first
                            | exact ⟨K + 1, by omega, by omega, by omega, HT7.out⟩
                            | exact ⟨K + 1, by omega, by omega, rfl, HT7.out, HGO6.out⟩
                            | (repeat apply Exists.intro
                               refine ⟨?_, rfl⟩
                               exact ⟨K + 1, by omega, by omega, rfl, HT7.out, HGO6.out⟩)
                      have hbrb : (BR != 0) = true := by simpa using hbr
                      have HC0 : Hid (∀ b', cF rr g a F ((K : Int), b') (st (2 * k + t)) = 0) := fun b' => by
                        rw [st_of htl]
                        refine cF_no ?_ (by rw [HN.out]; exact han)
                        have := HBR.out
                        by_cases h : aloneZ rr g a (K : Int) = 0
                        · rw [if_pos h] at this; exact .inr (fun e => hbr (this.symm.trans e))
                        · exact .inl h
                      have HT4 : Hid (Tbl wx B2 D2 (fun s => if s.1 < ((K + 1 : Nat) : Int) then nF rr g a F (2 * k + t + 1) s else nF rr g a F (2 * k + t) s)) := HT3.out.imp (fun j b' hj => by
                        by_cases hj2 : j = K
                        · subst hj2
                          rw [if_neg (by simp only; omega), if_pos (by simp only; omega), nF_same (HC0.out b')]
                        · by_cases hj3 : j < K
                          · rw [if_pos (by simp only; omega), if_pos (by simp only; omega)]
                          · rw [if_neg (by simp only; omega), if_neg (by simp only; omega)])
                      clear HC0 HBR hbr HT3 HTW
                      go_wp2_with fail
                      refine ⟨?_, by simp [intOf]; omega⟩
                      first
                        | exact ⟨K + 1, by omega, by omega, rfl, HT4.out, HGO3.out⟩
                        | (repeat apply Exists.intro
                           refine ⟨?_, rfl⟩
                           exact ⟨K + 1, by omega, by omega, rfl, HT4.out, HGO3.out⟩)
            have hkl : k ≤ 127 := by omega
            have hkl2 : (k : Int) < 128 := by omega
            have x0 : wr.cell? ⟨B2, k, none⟩ = some (.slice none 0 0) := by have := (HTK.out.1.at (i := k) hkl).1; rw [if_neg (Nat.lt_irrefl k)] at this; exact this
            have x1 := (HTK.out.1.at (i := k) hkl).2
            have hlt2 := HTK.out.1.lt
            have hsz := HTK.out.2.2.2
            have HSZ := Lib.hid hsz
            clear hsz
            go_wp2_with fail
            refine ⟨⟨k + 1, by omega, rfl, HTK.out.next hkl (by unfold rowV; rw [← HSZ.out]), ?_⟩, by simp only [intOf]; omega⟩
            exact grown_alloc (grown_set (p := ⟨B2, k, none⟩) HGO.out (.inr (Nat.le_of_eq HB2.out)) _) _
    have hkl : k ≤ 127 := by omega
    have hkl2 : (k : Int) < 128 := by omega
    have x0 : wr.cell? ⟨B, k, none⟩ = some (.slice none 0 0) := by have := (HT.out.1.at (i := k) hkl).1; rw [if_neg (Nat.lt_irrefl k)] at this; exact this
    have x1 := (HT.out.1.at (i := k) hkl).2
    have hlt2 := HT.out.1.lt
    have hsz := HT.out.2.2.2
    have HSZ := Lib.hid hsz
    clear hsz
    go_wp2_with fail
    refine ⟨⟨k + 1, by omega, rfl, HT.out.next hkl (by unfold rowV; rw [← HSZ.out]), ?_, ?_⟩, by simp only [intOf]; omega⟩
    · exact grown_alloc (grown_set (p := ⟨B, k, none⟩) HG.out (.inr (by have := HGB.out; have := HGBB.out; unfold Hid at *; simp; omega)) _) _
    · unfold Hid
      rw [heap_alloc_old _ _ (by rw [size_set]; exact lt_of HR.out), set_other (by have := HGBB.out; unfold Hid at this; simp; omega)]
      exact HR.out

end Go.Proofs.Ythdohdllpaijhaa.RWays
