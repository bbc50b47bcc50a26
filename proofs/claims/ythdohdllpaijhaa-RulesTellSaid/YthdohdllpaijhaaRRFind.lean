/- Count and Find, the reference's: the walks. -/
import Derived.Test.YthdohdllpaijhaaRWays
import Derived.Test.YthdohdllpaijhaaRRWrong
import Derived.Test.YthdohdllpaijhaaRCpy
namespace Go.Proofs.Ythdohdllpaijhaa.RRFind
open Go Go.RowKit Go.Proofs.Ythdohdllpaijhaa.RMod Go.Proofs.Ythdohdllpaijhaa.RCnt Go.Proofs.Ythdohdllpaijhaa.RFnd Go.Proofs.Ythdohdllpaijhaa.RWayP Go.Proofs.Ythdohdllpaijhaa.RTbl Go.Proofs.Ythdohdllpaijhaa.RWays Go.Proofs.Ythdohdllpaijhaa.RBrk Go.Proofs.Ythdohdllpaijhaa.RRWrong Go.Proofs.Ythdohdllpaijhaa.RCpy Go.Proofs.Ythdohdllpaijhaa.RCheck Go.Proofs.Ythdohdllpaijhaa.RCount Go.Proofs.Ythdohdllpaijhaa.RAlone Go.Proofs.Ythdohdllpaijhaa.Hp Go.Proofs.Ythdohdllpaijhaa.Rd
set_option linter.unusedVariables false
set_option linter.unusedSimpArgs false

theorem ways_nil {r : Ru} {g : List Int} (hok : OkG r g) : waysL r g [] = countC r g := by
  have hlen := hok.len
  unfold waysL
  rw [if_neg (by simp; omega), if_pos (show ([] : List Int).length = 0 from rfl)]
  exact ways_count hok.rules hlen.1

theorem at_app {l : List Int} {k : Int} {j : Nat} (hj : j < l.length) : at_ (l ++ [k]) j = at_ l j := by
  unfold at_
  rw [List.getD_eq_getElem?_getD, List.getD_eq_getElem?_getD, List.getElem?_append_left hj]
theorem at_new {l : List Int} {k : Int} {i : Nat} (h : l.length = i) : at_ (l ++ [k]) i = k := by
  subst h
  unfold at_
  rw [List.getD_eq_getElem?_getD, List.getElem?_append_right (Nat.le_refl _), Nat.sub_self]
  rfl
theorem same_app {l : List Int} {k : Int} {i : Nat} (h : l.length = i) : sameB (l ++ [k]) i = sameB l i := by
  unfold sameB
  by_cases h2 : 2 ≤ i
  · rw [at_app (by omega), at_app (by omega)]
  · rw [decide_eq_false h2]; rfl
theorem same_new {l : List Int} {k : Int} {i : Nat} (h : l.length = i) : sameB (l ++ [k]) (i + 1) = (decide (0 < i) && (k == at_ l (i - 1))) := by
  unfold sameB
  by_cases h2 : 0 < i
  · rw [show i + 1 - 1 = i from rfl, at_new h, show i + 1 - 2 = i - 1 from by omega, at_app (by omega), decide_eq_true (by omega), decide_eq_true h2]
  · rw [decide_eq_false (by omega), decide_eq_false h2]; rfl

/-- One key more: what the reference asks of it is what the program asks. -/
theorem ok_more {r : Ru} {g out : List Int} (hok : OkG r g) {i : Nat} (hi : i < g.length) (ho : out.length = i) {k : Int} (hk : 0 ≤ k ∧ k ≤ 127) :
    okK (tabF r g) r g i (at_ out (i - 1)) (sameB out i) k = (decide (brkZ r g (out ++ [k]) i = 0) && decide (0 < waysL r g (out ++ [k]))) := by
  have hl : (out ++ [k]).length = i + 1 := by simp [ho]
  have hw : waysL r g (out ++ [k]) = onC r g (g.length - 1 - i) k (decide (0 < i) && (k == at_ out (i - 1))) := by
    unfold waysL
    rw [hl]
    by_cases he : i + 1 = g.length
    · rw [if_pos he, show g.length - 1 - i = 0 from by omega]; rfl
    · rw [if_neg he, if_neg (by omega), show i + 1 - 1 = i from rfl, at_new ho, same_new ho, ways_from hok.rules hk (by omega), show g.length - 1 - i = g.length - (i + 1) from by omega]
  have hb : brkZ r g (out ++ [k]) i = if aloneZ r g i k = 0 ∧ 0 < i then behindZ r g i k (at_ out (i - 1)) (sameB out i) else aloneZ r g i k := by
    unfold brkZ
    rw [at_new ho, same_app ho]
    by_cases h0 : 0 < i
    · rw [at_app (by omega)]
    · rw [if_neg (by omega), if_neg (by omega)]
  rw [hw, hb]
  unfold okK tabF tabC
  rw [show g.length - 1 - (g.length - 1 - i) = i from by omega]
  by_cases ha : aloneZ r g i k = 0
  · rw [if_pos ha]
    by_cases h0 : 0 < i
    · rw [if_pos ⟨ha, h0⟩, decide_eq_false (p := i = 0) (by omega), Bool.false_or, Bool.and_comm]
      congr 1
      rw [Bool.eq_iff_iff]
      simp only [decide_eq_true_eq]
      omega
    · rw [if_neg (fun h => h0 h.2), decide_eq_true (p := i = 0) (by omega), Bool.true_or, Bool.and_true, ha]
      generalize onC r g _ _ _ = z
      rw [Bool.eq_iff_iff]
      simp only [decide_eq_true_eq, Bool.and_eq_true, true_and]
      omega
  · rw [if_neg ha, if_neg (fun h => ha h.1), decide_eq_false ha]
    simp

set_option maxHeartbeats 2000000 in
set_option maxRecDepth 100000 in
theorem rcount_calls (r : Ru) (ao : Option Addr) (cp : Nat) (g : List Int) (w : World) (hv : Ils w (.slice ao g.length cp) g) :
    Calls Try.prog 14 #[.agg #[.int .i64 r.low, .int .i64 r.high, .bool r.above, .int .i64 r.leap, .int .i64 r.classes], .slice ao g.length cp] w
      fun e w' => e = .returned (.tuple #[.int .i64 (cntV r g), .int .i64 (wrongR r g)]) ∧ Hid (w.grownBy w' none) := by
  have W1 := Lib.hid (fun w' hg => rwrong_calls r ao cp g w' (Ils.grown hv hg))
  have HG0 : ∀ o, Hid (w.grownBy (w.alloc o) none) := fun o => grown_alloc (grown_refl _ _) _
  by_cases h0 : wrongR r g = 0
  · have hok := okG_of h0
    have WC := Lib.hid (fun w' hg => ways_calls r ao none cp 0 g [] w' hok (Ils.grown hv hg) (.inr ⟨_, _, rfl, rfl⟩) (by simp) (fun h => by simp at h))
    rw [ways_nil hok] at WC
    have hV : cntV r g = (countC r g : Int) := by unfold cntV; rw [if_pos h0]
    rw [hV, h0]
    rw [h0] at W1
    obtain ⟨V, hV2⟩ : ∃ V, countC r g = V := ⟨_, rfl⟩
    rw [hV2] at WC ⊢
    obtain ⟨n, hn⟩ : ∃ n, g.length = n := ⟨_, rfl⟩
    rw [hn] at WC W1 ⊢
    simp only [List.length_nil] at WC
    clear hv hok h0 hV hV2 hn
    obtain ⟨low, high, above, leap, classes⟩ := r
    simp only at W1 WC ⊢
    have HG1 := HG0 (.cells #[.int .i64 low, .int .i64 high, .bool above, .int .i64 leap, .int .i64 classes] 23)
    have HR0 : Hid ((w.alloc (.cells #[.int .i64 low, .int .i64 high, .bool above, .int .i64 leap, .int .i64 classes] 23)).heap[w.heap.size]? = some (.cells #[.int .i64 low, .int .i64 high, .bool above, .int .i64 leap, .int .i64 classes] 23 (0, 0))) := heap_alloc_new _ _
    clear HG0
    go_enter Try.func14, Try.ntmps14
    go_upto_region 2 with (go_at_call 11; refine (W1.out _ HG1.out).mono ?_; rintro e w1 ⟨rfl, hg1⟩)
    have HR1 : Hid (w1.heap[w.heap.size]? = some (.cells #[.int .i64 low, .int .i64 high, .bool above, .int .i64 leap, .int .i64 classes] 23 (0, 0))) := by unfold Hid; rw [hg1.out.block _ (lt_of HR0.out) (by simp)]; exact HR0.out
    have HG2 : Hid (w.grownBy w1 none) := grown_trans HG1.out hg1.out
    have r0 := cell_of HR1.out 0
    have r1 := cell_of HR1.out 1
    have r2 := cell_of HR1.out 2
    have r3 := cell_of HR1.out 3
    have r4 := cell_of HR1.out 4
    go_wp2_with (go_at_call 22; refine (WC.out _ HG2.out).mono ?_; rintro e w2 ⟨rfl, hg2⟩)
    go_ret2
    exact ⟨rfl, grown_trans HG2.out hg2.out⟩
  · have hV : cntV r g = 0 := by unfold cntV; rw [if_neg h0]
    rw [hV]
    obtain ⟨R, hR⟩ : ∃ R, wrongR r g = R := ⟨_, rfl⟩
    rw [hR] at W1 h0 ⊢
    obtain ⟨n, hn⟩ : ∃ n, g.length = n := ⟨_, rfl⟩
    rw [hn] at W1 ⊢
    have h0' : (R != 0) = true := by simpa using h0
    clear hv hV hR hn
    obtain ⟨low, high, above, leap, classes⟩ := r
    simp only at W1 ⊢
    have HG1 := HG0 (.cells #[.int .i64 low, .int .i64 high, .bool above, .int .i64 leap, .int .i64 classes] 23)
    clear HG0
    go_enter Try.func14, Try.ntmps14
    go_wp2_with (go_at_call 11; refine (W1.out _ HG1.out).mono ?_; rintro e w1 ⟨rfl, hg1⟩)
    go_ret2
    exact ⟨rfl, grown_trans HG1.out hg1.out⟩

set_option maxHeartbeats 4000000 in
set_option maxRecDepth 100000 in
theorem rfind_calls (r : Ru) (ao : Option Addr) (cp : Nat) (g : List Int) (w : World) (hv : Ils w (.slice ao g.length cp) g) :
    Calls Try.prog 15 #[.agg #[.int .i64 r.low, .int .i64 r.high, .bool r.above, .int .i64 r.leap, .int .i64 r.classes], .slice ao g.length cp] w
      fun e w' => ∃ v, e = .returned (.tuple #[v, .int .i64 (findE r g)]) ∧ Hid (Ils w' v (findL r g)) ∧ Hid (w.grownBy w' none) := by
  have W1 := Lib.hid (fun w' hg => rwrong_calls r ao cp g w' (Ils.grown hv hg))
  by_cases h0 : wrongR r g = 0
  · have hok := okG_of h0
    have hlen := hok.len
    have BC := Lib.hid (fun w' (i : Nat) (l : List Int) a3 c3 (hi : i < g.length) (hl : l.length = i + 1) hg hx (hk : 0 ≤ at_ l i ∧ at_ l i ≤ 127) hk1 => breaks_calls r ao a3 cp c3 g l i w' hok (Ils.grown hv hg) hx hi (by omega) (by omega) hk hk1)
    have WC := Lib.hid (fun w' (l : List Int) a3 c3 (hl : l.length ≤ g.length) hg hx hk => ways_calls r ao a3 cp c3 g l w' hok (Ils.grown hv hg) hx hl hk)
    have HOM := Lib.hid (fun (i : Nat) (out : List Int) (hi : i < g.length) (ho : out.length = i) (k : Int) hk => ok_more hok hi ho (k := k) hk)
    have HE : Hid (findE r g = match findC r g with | none => 6 | some _ => 0) := by unfold Hid findE; rw [if_pos h0]; rfl
    have HL : Hid (findL r g = (findC r g).getD []) := by unfold Hid findL; rw [if_pos h0]
    have HC0 : Hid (findC r g = findFrom (tabF r g) r g g.length 0 (-1) false) := rfl
    obtain ⟨FC, hFC⟩ : ∃ x, findC r g = x := ⟨_, rfl⟩
    obtain ⟨FE, hFE⟩ : ∃ x, findE r g = x := ⟨_, rfl⟩
    obtain ⟨FL, hFL⟩ : ∃ x, findL r g = x := ⟨_, rfl⟩
    rw [hFC] at HE HL HC0
    rw [hFE] at HE ⊢
    rw [hFL] at HL ⊢
    obtain ⟨T, hT⟩ : ∃ T, tabF r g = T := ⟨_, rfl⟩
    rw [hT] at HC0 HOM
    rw [h0] at W1
    obtain ⟨n, hn⟩ : ∃ n, g.length = n := ⟨_, rfl⟩
    rw [hn] at hlen W1 BC WC HC0 HOM ⊢
    have hrs := hok.rules
    unfold okR at hrs
    obtain ⟨q0, q1, q2, _, _, _⟩ := hrs
    clear hv hok hn hFC hFE hFL h0 hT
    obtain ⟨rr, hrr⟩ : ∃ rr : Ru, r = rr := ⟨_, rfl⟩
    rw [hrr] at HC0 HOM
    simp only [show brkZ r = brkZ rr from by rw [hrr], show waysL r = waysL rr from by rw [hrr]] at BC WC
    have hlo : rr.low = r.low := by rw [← hrr]
    have hhi : rr.high = r.high := by rw [← hrr]
    have HLO := Lib.hid hlo
    have HHI := Lib.hid hhi
    clear hrr hlo hhi
    obtain ⟨low, high, above, leap, classes⟩ := r
    simp only at W1 BC WC HLO HHI q0 q1 q2 ⊢
    obtain ⟨gb, hgb⟩ : ∃ gb, w.heap.size = gb := ⟨_, rfl⟩
    have HG0 : Hid (w.grownBy (w.alloc (.cells #[.int .i64 low, .int .i64 high, .bool above, .int .i64 leap, .int .i64 classes] 23)) none) := grown_alloc (grown_refl _ _) _
    have HR0 : Hid ((w.alloc (.cells #[.int .i64 low, .int .i64 high, .bool above, .int .i64 leap, .int .i64 classes] 23)).heap[gb]? = some (.cells #[.int .i64 low, .int .i64 high, .bool above, .int .i64 leap, .int .i64 classes] 23 (0, 0))) := by unfold Hid; rw [← hgb]; exact heap_alloc_new _ _
    have HGB := Lib.hid hgb
    clear hgb
    go_enter Try.func15, Try.ntmps15
    go_upto_region 2 with (go_at_call 11; refine (W1.out _ HG0.out).mono ?_; rintro e w1 ⟨rfl, hg1⟩)
    simp only [HGB.out]
    have HG1 : Hid (w.grownBy w1 none) := grown_trans HG0.out hg1.out
    have HR1 : Hid (w1.heap[gb]? = some (.cells #[.int .i64 low, .int .i64 high, .bool above, .int .i64 leap, .int .i64 classes] 23 (0, 0))) := by unfold Hid; rw [hg1.out.block gb (lt_of HR0.out) (by simp)]; exact HR0.out
    clear HG0 HR0 hg1
    go_wp2_with fail
    go_loopw [7, 20] (fun v7 v20 wr => ∃ (i : Nat) (out : List Int) (lk : Int) (ls : Bool), i ≤ n ∧ v20 = .int .i64 (i : Int) ∧ Hid (out.length = i) ∧ Hid (Ils wr v7 out) ∧ Hid (FC = (findFrom T rr g (n - i) i lk ls).map (out ++ ·)) ∧
      Hid (0 < i → lk = at_ out (i - 1)) ∧ Hid (ls = sameB out i) ∧ Hid (0 < i → 0 ≤ lk ∧ lk ≤ 127) ∧ Hid (wr.heap[gb]? = some (.cells #[.int .i64 low, .int .i64 high, .bool above, .int .i64 leap, .int .i64 classes] 23 (0, 0))) ∧ Hid (w.grownBy wr none)) (fun _ v20 _ => n - (intOf v20).toNat)
    case atStart => exact ⟨0, [], -1, false, Nat.zero_le _, rfl, rfl, .inr ⟨_, _, rfl, rfl⟩, (by unfold Hid; rw [HC0.out]; simp), (fun h => absurd h (by omega)), rfl, (fun h => absurd h (by omega)), HR1.out, HG1.out⟩
    case round =>
      obtain ⟨i, out, lk, ls, hil, rfl, HOL, HO, HF, HLK, HLS, HLB, HR, HG⟩ := hrel
      by_cases hend : i = n
      · have HFF : Hid (FC = some out) := by unfold Hid; rw [HF.out, hend, Nat.sub_self]; simp [findFrom]
        have HX : Hid (FE = 0) := by unfold Hid; rw [HE.out, HFF.out]
        have HY : Hid (Ils wr u7 FL) := by unfold Hid; rw [HL.out, HFF.out]; exact HO.out
        subst hend
        go_wp2_with fail
        go_ret2
        exact ⟨_, by rw [HX.out]; rfl, HY.out, HG.out⟩
      have hlt : i < n := by omega
      obtain ⟨P, hP⟩ : ∃ P, okK T rr g i lk ls = P := ⟨_, rfl⟩
      have HPK := Lib.hid hP
      have hPK : ∀ k, okK T rr g i lk ls k = P k := fun k => by rw [hP]
      have PF : Hid (∀ K, low ≤ K → K ≤ high → (∀ k, low ≤ k → k < K → P k = false) → P K = true → pick T rr g i lk ls = some K) := fun K h1 h2 h3 h4 => pick_first (by rw [HLO.out]; exact h1) (by rw [HHI.out]; exact h2) (fun k a b => by rw [hPK]; exact h3 k (by rw [← HLO.out]; exact a) b) (by rw [hPK]; exact h4)
      have PN : Hid ((∀ k, low ≤ k → k < high + 1 → P k = false) → pick T rr g i lk ls = none) := fun h => pick_none (by rw [HLO.out, HHI.out]; exact q2) (fun k a b => by rw [hPK]; exact h k (by rw [← HLO.out]; exact a) (by rw [← HHI.out]; exact b))
      have HPO : Hid (∀ k, 0 ≤ k ∧ k ≤ 127 → P k = (decide (brkZ rr g (out ++ [k]) i = 0) && decide (0 < waysL rr g (out ++ [k])))) := fun k hk => by
        rw [← HOM.out i out hlt HOL.out k hk, ← hP, ← HLS.out]
        by_cases h0 : 0 < i
        · rw [HLK.out h0]
        · unfold okK
          rw [decide_eq_true (p := i = 0) (by omega), decide_eq_false h0]
          simp
      have r0 := cell_of HR.out 0
      clear hP hPK
      go_wp2_with fail
      clear r0
      go_loopw [7, 9, 10] (fun v7 v9 v10 wr => ∃ (K : Int) (fd : Bool) (o2 : List Int), low ≤ K ∧ K ≤ high + 1 ∧ v10 = .int .i64 K ∧ v9 = .bool fd ∧ Hid (Ils wr v7 o2) ∧ Hid (wr.heap[gb]? = some (.cells #[.int .i64 low, .int .i64 high, .bool above, .int .i64 leap, .int .i64 classes] 23 (0, 0))) ∧ Hid (w.grownBy wr none) ∧
        Hid (fd = false → o2 = out ∧ ∀ k, low ≤ k → k < K → P k = false) ∧ Hid (fd = true → ∃ k0, pick T rr g i lk ls = some k0 ∧ o2 = out ++ [k0] ∧ low ≤ k0 ∧ k0 ≤ high)) (fun _ _ v10 _ => (high + 1 - intOf v10).toNat)
      case atStart => exact ⟨low, false, out, by omega, by omega, rfl, rfl, HO.out, HR.out, HG.out, fun _ => ⟨rfl, fun k a b => absurd b (by omega)⟩, fun h => by cases h⟩
      case round =>
        clear HO HR HG
        obtain ⟨K, fd, o2, hK0, hK1, rfl, rfl, HO, HR, HG, HF0, HF1⟩ := hrel
        have r0 := cell_of HR.out 0
        have r1 := cell_of HR.out 1
        have r2 := cell_of HR.out 2
        have r3 := cell_of HR.out 3
        have r4 := cell_of HR.out 4
        cases fd
        · obtain ⟨rfl, hnone⟩ := HF0.out rfl
          have HNO := Lib.hid hnone
          clear hnone HF0 HF1
          by_cases hKe : K = high + 1
          · subst hKe
            have HPN := Lib.hid (PN.out HNO.out)
            have HFF : Hid (FC = none) := by
              unfold Hid
              rw [HF.out, show n - i = (n - i - 1) + 1 from by omega]
              simp only [findFrom, HPN.out, Option.map_none]
            have HX : Hid (FE = 6) := by unfold Hid; rw [HE.out, HFF.out]
            have HY : Hid (Ils wr (.slice none 0 0) FL) := by unfold Hid; rw [HL.out, HFF.out]; exact .inr ⟨_, _, rfl, rfl⟩
            go_wp2_with fail
            go_ret2
            exact ⟨_, by rw [HX.out]; rfl, HY.out, HG.out⟩
          have hK2 : K ≤ high := by omega
          have hKb : 0 ≤ K ∧ K ≤ 127 := by omega
          have hol : o2.length ≤ 64 := by rw [HOL.out]; omega
          have HOL2 : Hid ((o2 ++ [K]).length = i + 1) := by unfold Hid; rw [List.length_append, HOL.out]; rfl
          have HPV := Lib.hid (HPO.out K hKb)
          go_upto_region 13 with (first
            | (at_builtin; refine append_copy rfl _ _ rfl _ o2 rfl rfl HO.out (by omega) ?_; intro v7 w7 HO7 HG7)
            | (at_builtin; refine append_last rfl _ _ rfl v7 o2 K rfl rfl HO7.out (by omega) HG7.out ?_; intro v8 w8 HO8 HG8))
          obtain ⟨a8, c8, hv8, _⟩ := sl_open HO8.out
          subst hv8
          rw [HOL2.out] at HO8 ⊢
          have HX8 : Hid (Ils w8 (.slice a8 (o2 ++ [K]).length c8) (o2 ++ [K])) := by unfold Hid; rw [HOL2.out]; exact HO8.out
          have HG9 : Hid (w.grownBy w8 none) := grown_trans HG.out HG8.out
          have HR9 : Hid (w8.heap[gb]? = some (.cells #[.int .i64 low, .int .i64 high, .bool above, .int .i64 leap, .int .i64 classes] 23 (0, 0))) := by unfold Hid; rw [HG8.out.block gb (lt_of HR.out) (by simp)]; exact HR.out
          have hkk : Hid (0 < i → 0 ≤ at_ (o2 ++ [K]) (i - 1) ∧ at_ (o2 ++ [K]) (i - 1) ≤ 127) := fun h => by rw [at_app (by rw [HOL.out]; omega), ← HLK.out h]; exact HLB.out h
          have B1 := Lib.hid (BC.out w8 i (o2 ++ [K]) a8 c8 hlt HOL2.out HG9.out HX8.out (by rw [at_new HOL.out]; exact hKb) hkk.out)
          have W2 := Lib.hid (fun w' (hg : w8.grownBy w' none) => WC.out w' (o2 ++ [K]) a8 c8 (by rw [HOL2.out]; omega) (grown_trans HG9.out hg) (Ils.grown HX8.out hg) (fun _ => by rw [HOL2.out, show i + 1 - 1 = i from rfl, at_new HOL.out]; exact hKb))
          rw [HOL2.out] at B1 W2
          obtain ⟨bz, hbz⟩ : ∃ bz, brkZ rr g (o2 ++ [K]) i = bz := ⟨_, rfl⟩
          obtain ⟨wz, hwz⟩ : ∃ wz, waysL rr g (o2 ++ [K]) = wz := ⟨_, rfl⟩
          rw [hbz] at B1 HPV
          rw [hwz] at W2 HPV
          have HOW : Hid (Ils w8 u7 o2) := Ils.grown HO.out HG8.out
          clear r0 r1 r2 r3 r4 HO HR HG HO7 HG7 HG8 HX8 hbz hwz hkk HPO
          have r0 := cell_of HR9.out 0
          have r1 := cell_of HR9.out 1
          have r2 := cell_of HR9.out 2
          have r3 := cell_of HR9.out 3
          have r4 := cell_of HR9.out 4
          by_cases hb0 : bz = 0
          · subst hb0
            by_cases hw0 : 0 < wz
            · go_wp2_with (first
              | (go_at_call 21; refine (B1.out).mono ?_; rintro e w9 ⟨rfl, hg9⟩; have s0 : w9.cell? ⟨gb, 0, none⟩ = some (.int .i64 low) := grown_cell hg9.out r0 (by simp); have s1 : w9.cell? ⟨gb, 1, none⟩ = some (.int .i64 high) := grown_cell hg9.out r1 (by simp); have s2 : w9.cell? ⟨gb, 2, none⟩ = some (.bool above) := grown_cell hg9.out r2 (by simp); have s3 : w9.cell? ⟨gb, 3, none⟩ = some (.int .i64 leap) := grown_cell hg9.out r3 (by simp); have s4 : w9.cell? ⟨gb, 4, none⟩ = some (.int .i64 classes) := grown_cell hg9.out r4 (by simp))
              | (go_at_call 22; refine (W2.out _ hg9.out).mono ?_; rintro e w10 ⟨rfl, hg10⟩))
              have HPT : Hid (P K = true) := by unfold Hid; rw [HPV.out, decide_eq_true hw0]; simp
              have HPK2 : Hid (pick T rr g i lk ls = some K) := PF.out K hK0 hK2 HNO.out HPT.out
              have HGN : Hid (w8.grownBy w10 none) := grown_trans hg9.out hg10.out
              have HXN : Hid (Ils w10 (.slice a8 (i + 1) c8) (o2 ++ [K])) := Ils.grown HO8.out HGN.out
              have HRN : Hid (w10.heap[gb]? = some (.cells #[.int .i64 low, .int .i64 high, .bool above, .int .i64 leap, .int .i64 classes] 23 (0, 0))) := by unfold Hid; rw [HGN.out.block gb (lt_of HR9.out) (by simp)]; exact HR9.out
              have HG11 : Hid (w.grownBy w10 none) := grown_trans HG9.out HGN.out
              refine ⟨?_, by simp [intOf]; omega⟩
              first
                | exact ⟨K + 1, true, o2 ++ [K], by omega, by omega, rfl, rfl, HXN.out, HRN.out, HG11.out, fun h => (by cases h), fun _ => ⟨K, HPK2.out, rfl, hK0, hK2⟩⟩
                | (repeat apply Exists.intro
                   refine ⟨?_, rfl⟩
                   exact ⟨K + 1, true, o2 ++ [K], by omega, by omega, rfl, rfl, HXN.out, HRN.out, HG11.out, fun h => (by cases h), fun _ => ⟨K, HPK2.out, rfl, hK0, hK2⟩⟩)
            · have HPF : Hid (P K = false) := by unfold Hid; rw [HPV.out, decide_eq_false hw0, Bool.and_false]
              obtain rfl : wz = 0 := by omega
              go_wp2_with (first
              | (go_at_call 21; refine (B1.out).mono ?_; rintro e w9 ⟨rfl, hg9⟩; have s0 : w9.cell? ⟨gb, 0, none⟩ = some (.int .i64 low) := grown_cell hg9.out r0 (by simp); have s1 : w9.cell? ⟨gb, 1, none⟩ = some (.int .i64 high) := grown_cell hg9.out r1 (by simp); have s2 : w9.cell? ⟨gb, 2, none⟩ = some (.bool above) := grown_cell hg9.out r2 (by simp); have s3 : w9.cell? ⟨gb, 3, none⟩ = some (.int .i64 leap) := grown_cell hg9.out r3 (by simp); have s4 : w9.cell? ⟨gb, 4, none⟩ = some (.int .i64 classes) := grown_cell hg9.out r4 (by simp))
              | (go_at_call 22; refine (W2.out _ hg9.out).mono ?_; rintro e w10 ⟨rfl, hg10⟩))
              have HGN : Hid (w8.grownBy w10 none) := grown_trans hg9.out hg10.out
              have HXN : Hid (Ils w10 u7 o2) := Ils.grown HOW.out HGN.out
              have HRN : Hid (w10.heap[gb]? = some (.cells #[.int .i64 low, .int .i64 high, .bool above, .int .i64 leap, .int .i64 classes] 23 (0, 0))) := by unfold Hid; rw [HGN.out.block gb (lt_of HR9.out) (by simp)]; exact HR9.out
              have HG11 : Hid (w.grownBy w10 none) := grown_trans HG9.out HGN.out
              have HNN : Hid (∀ k, low ≤ k → k < K + 1 → P k = false) := fun k a b => by
                by_cases hk : k = K
                · rw [hk]; exact HPF.out
                · exact HNO.out k a (by omega)
              refine ⟨?_, by simp [intOf]; omega⟩
              first
                | exact ⟨K + 1, false, o2, by omega, by omega, rfl, rfl, HXN.out, HRN.out, HG11.out, fun _ => ⟨rfl, HNN.out⟩, fun h => by cases h⟩
                | (repeat apply Exists.intro
                   refine ⟨?_, rfl⟩
                   exact ⟨K + 1, false, o2, by omega, by omega, rfl, rfl, HXN.out, HRN.out, HG11.out, fun _ => ⟨rfl, HNN.out⟩, fun h => by cases h⟩)
          · have hb1 : (bz == 0) = false := by simpa using hb0
            have HPF : Hid (P K = false) := by unfold Hid; rw [HPV.out, decide_eq_false hb0]; rfl
            go_wp2_with (go_at_call 21; refine (B1.out).mono ?_; rintro e w9 ⟨rfl, hg9⟩; have s0 : w9.cell? ⟨gb, 0, none⟩ = some (.int .i64 low) := grown_cell hg9.out r0 (by simp); have s1 : w9.cell? ⟨gb, 1, none⟩ = some (.int .i64 high) := grown_cell hg9.out r1 (by simp); have s2 : w9.cell? ⟨gb, 2, none⟩ = some (.bool above) := grown_cell hg9.out r2 (by simp); have s3 : w9.cell? ⟨gb, 3, none⟩ = some (.int .i64 leap) := grown_cell hg9.out r3 (by simp); have s4 : w9.cell? ⟨gb, 4, none⟩ = some (.int .i64 classes) := grown_cell hg9.out r4 (by simp))
            have HGN : Hid (w8.grownBy w9 none) := hg9.out
            have HXN : Hid (Ils w9 u7 o2) := Ils.grown HOW.out HGN.out
            have HRN : Hid (w9.heap[gb]? = some (.cells #[.int .i64 low, .int .i64 high, .bool above, .int .i64 leap, .int .i64 classes] 23 (0, 0))) := by unfold Hid; rw [HGN.out.block gb (lt_of HR9.out) (by simp)]; exact HR9.out
            have HG11 : Hid (w.grownBy w9 none) := grown_trans HG9.out HGN.out
            have HNN : Hid (∀ k, low ≤ k → k < K + 1 → P k = false) := fun k a b => by
              by_cases hk : k = K
              · rw [hk]; exact HPF.out
              · exact HNO.out k a (by omega)
            refine ⟨?_, by simp [intOf]; omega⟩
            first
              | exact ⟨K + 1, false, o2, by omega, by omega, rfl, rfl, HXN.out, HRN.out, HG11.out, fun _ => ⟨rfl, HNN.out⟩, fun h => by cases h⟩
              | (repeat apply Exists.intro
                 refine ⟨?_, rfl⟩
                 exact ⟨K + 1, false, o2, by omega, by omega, rfl, rfl, HXN.out, HRN.out, HG11.out, fun _ => ⟨rfl, HNN.out⟩, fun h => by cases h⟩)
        · obtain ⟨k0, hpick, rfl, hk0, hk1⟩ := HF1.out rfl
          have HPS := Lib.hid hpick
          clear HF0 HF1 hpick
          have HNX : Hid (FC = (findFrom T rr g (n - (i + 1)) (i + 1) k0 (decide (0 < i) && (k0 == lk))).map ((out ++ [k0]) ++ ·)) := by
            unfold Hid
            rw [HF.out, show n - i = (n - (i + 1)) + 1 from by omega]
            simp only [findFrom, HPS.out, Option.map_map]
            congr 1
            funext l
            simp
          have HOLN : Hid ((out ++ [k0]).length = i + 1) := by unfold Hid; rw [List.length_append, HOL.out]; rfl
          have HLK2 : Hid (0 < i + 1 → k0 = at_ (out ++ [k0]) (i + 1 - 1)) := fun _ => (at_new HOL.out).symm
          have HLS2 : Hid ((decide (0 < i) && (k0 == lk)) = sameB (out ++ [k0]) (i + 1)) := by
            unfold Hid
            rw [same_new HOL.out]
            by_cases h0 : 0 < i
            · rw [HLK.out h0]
            · rw [decide_eq_false h0]; rfl
          have hrange : Hid (0 < i + 1 → 0 ≤ k0 ∧ k0 ≤ 127) := fun _ => by omega
          by_cases hKe : K = high + 1
          · subst hKe
            go_wp2_with fail
            refine ⟨?_, by simp [intOf]; omega⟩
            first
              | exact ⟨i + 1, out ++ [k0], k0, _, by omega, rfl, HOLN.out, HO.out, HNX.out, HLK2.out, HLS2.out, hrange.out, HR.out, HG.out⟩
              | (repeat apply Exists.intro
                 refine ⟨?_, rfl⟩
                 exact ⟨i + 1, out ++ [k0], k0, _, by omega, rfl, HOLN.out, HO.out, HNX.out, HLK2.out, HLS2.out, hrange.out, HR.out, HG.out⟩)
          · have hK2 : K ≤ high := by omega
            go_wp2_with fail
            refine ⟨?_, by simp [intOf]; omega⟩
            first
              | exact ⟨i + 1, out ++ [k0], k0, _, by omega, rfl, HOLN.out, HO.out, HNX.out, HLK2.out, HLS2.out, hrange.out, HR.out, HG.out⟩
              | (repeat apply Exists.intro
                 refine ⟨?_, rfl⟩
                 exact ⟨i + 1, out ++ [k0], k0, _, by omega, rfl, HOLN.out, HO.out, HNX.out, HLK2.out, HLS2.out, hrange.out, HR.out, HG.out⟩)
  · have HX : Hid (findE r g = wrongR r g) := by unfold Hid findE; rw [if_neg h0]
    have HY : Hid (findL r g = []) := by unfold Hid findL; rw [if_neg h0]
    obtain ⟨FE, hFE⟩ : ∃ x, findE r g = x := ⟨_, rfl⟩
    obtain ⟨FL, hFL⟩ : ∃ x, findL r g = x := ⟨_, rfl⟩
    obtain ⟨R, hR⟩ : ∃ R, wrongR r g = R := ⟨_, rfl⟩
    rw [hFE, hR] at HX
    rw [hFL] at HY
    rw [hR] at W1 h0
    rw [hFE, hFL]
    obtain ⟨n, hn⟩ : ∃ n, g.length = n := ⟨_, rfl⟩
    rw [hn] at W1 ⊢
    have h0' : (R != 0) = true := by simpa using h0
    clear hv hn hFE hFL hR
    obtain ⟨low, high, above, leap, classes⟩ := r
    simp only at W1 ⊢
    have HG0 : Hid (w.grownBy (w.alloc (.cells #[.int .i64 low, .int .i64 high, .bool above, .int .i64 leap, .int .i64 classes] 23)) none) := grown_alloc (grown_refl _ _) _
    go_enter Try.func15, Try.ntmps15
    go_wp2_with (go_at_call 11; refine (W1.out _ HG0.out).mono ?_; rintro e w1 ⟨rfl, hg1⟩)
    go_ret2
    exact ⟨_, by rw [HX.out]; rfl, .inr ⟨_, _, rfl, HY.out⟩, grown_trans HG0.out hg1.out⟩
end Go.Proofs.Ythdohdllpaijhaa.RRFind
