/- RulesMoved: the walk, its main way. -/
import Derived.Test.YthdohdllpaijhaaRMovX
namespace Go.Proofs.Ythdohdllpaijhaa.RMovM
open Go Go.RowKit Go.Proofs.Ythdohdllpaijhaa.RMod Go.Proofs.Ythdohdllpaijhaa.RCnt Go.Proofs.Ythdohdllpaijhaa.RFnd Go.Proofs.Ythdohdllpaijhaa.RFind Go.Proofs.Ythdohdllpaijhaa.RLess Go.Proofs.Ythdohdllpaijhaa.RMov Go.Proofs.Ythdohdllpaijhaa.RMovL Go.Proofs.Ythdohdllpaijhaa.RMovP Go.Proofs.Ythdohdllpaijhaa.RMay Go.Proofs.Ythdohdllpaijhaa.RCount Go.Proofs.Ythdohdllpaijhaa.RAlone Go.Proofs.Ythdohdllpaijhaa.Hp Go.Proofs.Ythdohdllpaijhaa.Rd Go.Proofs.Ythdohdllpaijhaa.App
set_option linter.unusedVariables false
set_option linter.unusedSimpArgs false

theorem bits_mono (c b : Int) (k : Nat) : bitsUp c b k ≤ bitsUp c b (k + 1) := by
  show bitsUp c b k ≤ if mayB c (k : Int) = true then bitsUp c b k + 2 ^ (((k : Int) + b) % 12).toNat else bitsUp c b k
  have : (0 : Int) ≤ 2 ^ (((k : Int) + b) % 12).toNat := Int.pow_nonneg (by omega)
  split <;> omega
theorem bits_le (c b : Int) (k : Nat) : ∀ d, bitsUp c b k ≤ bitsUp c b (k + d)
  | 0 => by simp
  | d + 1 => Int.le_trans (bits_le c b k d) (bits_mono c b (k + d))
theorem bits_bd (c : Int) {b : Int} (hb : 0 ≤ b) (k : Nat) (hk : k ≤ 12) : 0 ≤ bitsUp c b k ∧ bitsUp c b k ≤ 4095 := by
  have h0 := bits_le c b 0 k
  have h1 := bits_le c b k (12 - k)
  have h2 := (RBits.bits_moved (c := c) hb).2.1
  rw [Nat.zero_add] at h0
  rw [show k + (12 - k) = 12 from by omega] at h1
  have : bitsUp c b 0 = 0 := rfl
  omega
theorem pow_bd (q : Nat) (hq : q < 12) : (1 : Int) ≤ 2 ^ q ∧ (2 : Int) ^ q ≤ 2048 := by
  have : q = 0 ∨ q = 1 ∨ q = 2 ∨ q = 3 ∨ q = 4 ∨ q = 5 ∨ q = 6 ∨ q = 7 ∨ q = 8 ∨ q = 9 ∨ q = 10 ∨ q = 11 := by omega
  rcases this with rfl | rfl | rfl | rfl | rfl | rfl | rfl | rfl | rfl | rfl | rfl | rfl <;> decide

/-- A world in which these rules lie there. -/
structure LiesR (gb : Nat) (low high : Int) (above : Bool) (leap classes : Int) where
  w : World
  h : w.heap[gb]? = some (.cells #[.int .i64 low, .int .i64 high, .bool above, .int .i64 leap, .int .i64 classes] 23 (0, 0))
def liesR (gb : Nat) (low high : Int) (above : Bool) (leap classes : Int) (w' : World) : Prop := ∃ n : LiesR gb low high above leap classes, w' = n.w
theorem liesR_of {gb : Nat} {low high : Int} {above : Bool} {leap classes : Int} {w' : World} (h : w'.heap[gb]? = some (.cells #[.int .i64 low, .int .i64 high, .bool above, .int .i64 leap, .int .i64 classes] 23 (0, 0))) : liesR gb low high above leap classes w' := ⟨⟨w', h⟩, rfl⟩

set_option maxHeartbeats 6000000 in
set_option maxRecDepth 100000 in
theorem law_main (r : Ru) (a1 : Option Addr) (c1 : Nat) (g : List Int) (b sl sh : Int) (w : World) (hb : 1 ≤ b ∧ b ≤ 127) (hl7 : r.low ≤ 127) (hh : 0 ≤ r.high) (hm : r.high ≤ 9223372036854775807)
    (hsl : wrap64 (r.low + b) = sl) (hsh : wrap64 (r.high + b) = sh) (hs : sh ≤ 127) (hc : 0 ≤ r.classes ∧ r.classes ≤ 4095) (hg63 : g.length * 8 ≤ 140737488351232) (hv : Ils w (.slice a1 g.length c1) g) :
    Calls Try.prog 3 #[.agg #[.int .i64 r.low, .int .i64 r.high, .bool r.above, .int .i64 r.leap, .int .i64 r.classes], .slice a1 g.length c1, .int .i64 b] w
      fun e w' => e = .returned (.bool true) ∧ Hid (w.grownBy w' none) := by
  have CC := Lib.hid (fun w' hg => count_calls r a1 c1 g w' (Ils.grown hv hg))
  have CF := Lib.hid (fun w' hg => find_calls r a1 c1 g w' (Ils.grown hv hg))
  obtain ⟨U, hU⟩ : ∃ U, g.map (· + b) = U := ⟨_, rfl⟩
  have UL : U.length = g.length := by rw [← hU]; simp
  have CCU := Lib.hid (fun w' a3 c3 hx => count_calls (upS r b sl sh) a3 c3 U w' hx)
  have CFU := Lib.hid (fun w' a3 c3 hx => find_calls (upS r b sl sh) a3 c3 U w' hx)
  have HAL := Lib.hid (fun hg h0 hl => all_of (g := g) hb h0 hl hl7 hm hsl hsh hs hc hg)
  have HFK := Lib.hid (find_keys r g)
  have HFN := Lib.hid (find_len r g)
  rw [hU] at HAL
  have HBD := Lib.hid (fun k hk => bits_bd r.classes (b := b) (by omega) k hk)
  have HV := Lib.hid hv
  have HU := Lib.hid hU
  obtain ⟨low, high, above, leap, classes⟩ := r
  simp only [upS] at hl7 hh hsl hsh hc CC CF CCU CFU HAL HFK HFN HBD ⊢
  rw [UL] at CCU CFU
  obtain ⟨n, hn⟩ : ∃ n, g.length = n := ⟨_, rfl⟩
  rw [hn] at hg63 HV CC CF CCU CFU UL ⊢
  have HN := Lib.hid hn
  have HUL := Lib.hid UL
  have HB12 : Hid (∀ k, k < 12 → bitsUp classes b (k + 1) = if mayB classes (k : Int) = true then bitsUp classes b k + 2 ^ (((k : Int) + b) % 12).toNat else bitsUp classes b k) := fun k _ => rfl
  have HBZ : Hid (bitsUp classes b 0 = 0) := rfl
  obtain ⟨BU, hBU⟩ : ∃ BU : Nat → Int, (fun k => bitsUp classes b k) = BU := ⟨_, rfl⟩
  have hBU' : ∀ k, bitsUp classes b k = BU k := fun k => by rw [← hBU]
  simp only [hBU'] at HAL CCU CFU HBD HB12 HBZ
  have HSL := Lib.hid hsl
  clear hBU hBU' hv hU UL hn hsl
  have HSH := Lib.hid hsh
  clear hsh
  obtain ⟨b0, b1⟩ := hb
  obtain ⟨cl0, cl1⟩ := hc
  obtain ⟨i0, hi, hz0, hz1, hz2⟩ := info_parts RFind.info3
  obtain ⟨gb, hgb⟩ : ∃ gb, w.heap.size = gb := ⟨_, rfl⟩
  have HGBE := Lib.hid hgb
  have HG0 : Hid (w.grownBy (w.alloc (.cells #[.int .i64 low, .int .i64 high, .bool above, .int .i64 leap, .int .i64 classes] 23)) none) := grown_alloc (grown_refl _ _) _
  have HR0 : Hid ((w.alloc (.cells #[.int .i64 low, .int .i64 high, .bool above, .int .i64 leap, .int .i64 classes] 23)).heap[gb]? = some (.cells #[.int .i64 low, .int .i64 high, .bool above, .int .i64 leap, .int .i64 classes] 23 (0, 0))) := by unfold Hid; rw [← hgb]; exact heap_alloc_new _ _
  clear hgb
  go_enter Try.func3, Try.ntmps3
  go_upto_region 3 with (go_at_call 6; refine (alive_calls _).mono ?_; rintro e w1 ⟨rfl, hg1⟩)
  simp only [HGBE.out]
  have HG1 : Hid (w.grownBy w1 none) := grown_trans HG0.out hg1.out
  have HR1 : Hid (w1.heap[gb]? = some (.cells #[.int .i64 low, .int .i64 high, .bool above, .int .i64 leap, .int .i64 classes] 23 (0, 0))) := by
    unfold Hid; rw [hg1.out.block gb (lt_of HR0.out) (by simp)]; exact HR0.out
  have r0 := cell_of HR1.out 0
  have r1 := cell_of HR1.out 1
  have r4 := cell_of HR1.out 4
  have hsh := HSH.out
  clear HG0 HR0 hg1
  go_wp2_with fail
  clear r0 r1 r4 hsh
  have HB1 : Hid (gb < w1.heap.size) := lt_of HR1.out
  go_loopw [7, 60] (fun v7 v60 wr => ∃ i : Nat, i ≤ n ∧ v60 = .int .i64 (i : Int) ∧ Hid (∀ k ∈ g.take i, 0 ≤ k ∧ k ≤ 127 - b) ∧ Hid (wr.ownsRow w1.heap.size 3 1 v7 i ((U.take i).map (Value.int .i64))) ∧
      Hid (wr.heap[gb]? = some (.cells #[.int .i64 low, .int .i64 high, .bool above, .int .i64 leap, .int .i64 classes] 23 (0, 0))) ∧ Hid (w.grownBy wr none) ∧ Hid (w1.heap.size ≤ wr.heap.size)) (fun _ v60 _ => n - (intOf v60).toNat)
  case atStart => exact ⟨0, Nat.zero_le _, rfl, (fun k hk => by simp at hk), World.ownsRow_nil _ _ _ _, HR1.out, HG1.out, Nat.le_refl _⟩
  case round =>
    obtain ⟨i, hil, rfl, HALL, HO, HR, HG, HSZ⟩ := hrel
    by_cases hlt : i < n
    · obtain ⟨bb, off, rfl, hc0⟩ := giv_at HV.out (i := i) (by rw [HN.out]; exact hlt)
      have hcell : wr.cell? ⟨bb, off + i, none⟩ = some (.int .i64 (at_ g i)) := grown_cell HG.out hc0 (by simp)
      have HGE : Hid (g[i]? = some (at_ g i)) := by unfold Hid at_; rw [List.getD_eq_getElem?_getD, List.getElem?_eq_getElem (by rw [HN.out]; exact hlt)]; rfl
      obtain ⟨x, hx⟩ : ∃ x, at_ g i = x := ⟨_, rfl⟩
      rw [hx] at hcell HGE
      clear hc0 hx
      have hii : (i : Int) < (n : Int) := by omega
      by_cases x0 : x < 0
      · go_wp2_with fail
        go_ret
        exact ⟨rfl, HG.out⟩
      by_cases x1 : 127 - b < x
      · go_wp2_with fail
        go_ret
        exact ⟨rfl, HG.out⟩
      have HALL2 : Hid (∀ k ∈ g.take (i + 1), 0 ≤ k ∧ k ≤ 127 - b) := by
        obtain ⟨hi, he⟩ := List.getElem?_eq_some_iff.1 HGE.out
        intro k hk
        rw [List.take_succ_eq_append_getElem hi, he] at hk
        rcases List.mem_append.1 hk with hk | hk
        · exact HALL.out k hk
        · simp only [List.mem_cons, List.not_mem_nil, or_false] at hk
          omega
      have HUT : Hid ((U.take i).map (Value.int .i64) ++ [.int .i64 (x + b)] = (U.take (i + 1)).map (Value.int .i64)) := by
        obtain ⟨hi, he⟩ := List.getElem?_eq_some_iff.1 HGE.out
        have hi2 : i < U.length := by rw [HUL.out]; exact hlt
        have he2 : U[i] = x + b := by simp only [← HU.out, List.getElem_map, he]
        unfold Hid
        rw [List.take_succ_eq_append_getElem hi2, he2, List.map_append]
        rfl
      have HSZ2 := Lib.hid (cell_one_new wr (.int .i64 (x + b)) 3)
      have HOA := Lib.hid (HO.out.alloc (.cells #[.int .i64 (x + b)] 3))
      have hsz3 := HSZ.out
      clear HO
      go_wp2_with (at_builtin; refine wpList_append_own _ rfl _ _ 24 rfl w1.heap.size 3 i0 (.int .i64 0) 1 8 Try.underlying24 hi hz0 hz1 hz2 rfl (by decide) _ i ((U.take i).map (Value.int .i64)) rfl HOA.out ⟨wr.heap.size, 0, none⟩ 1 1 [.int .i64 (x + b)] rfl rfl (fun j u h => HSZ2.out j u h) (by simp [Value.oneCell']) (by unfold maxLen; omega) (by omega) (by simp; omega) ?_; intro v2 w2 hown2 hg2 hat2)
      have HO2 : Hid (w2.ownsRow w1.heap.size 3 1 v2 (i + 1) ((U.take (i + 1)).map (Value.int .i64))) := by unfold Hid; rw [← HUT.out]; exact hown2
      have HWA : Hid (wr.grownBy (wr.alloc (.cells #[.int .i64 (x + b)] 3)) none) := grown_alloc (grown_refl _ _) _
      have HG2 : Hid (w.grownBy w2 none) := grown_own (grown_trans HG.out HWA.out) hg2 (fun j hj => by have := (own_lt HOA.out hj).2; have := HG1.out.size; omega)
      have HR2 : Hid (w2.heap[gb]? = some (.cells #[.int .i64 low, .int .i64 high, .bool above, .int .i64 leap, .int .i64 classes] 23 (0, 0))) := by
        unfold Hid
        rw [hg2.block gb (Nat.lt_of_lt_of_le (lt_of HR.out) HWA.out.size) (fun e => by have := (own_lt HOA.out e.symm).2; have := HB1.out; unfold Hid at this; omega), HWA.out.block gb (lt_of HR.out) (by simp)]
        exact HR.out
      have HSZ4 : Hid (w1.heap.size ≤ w2.heap.size) := Nat.le_trans (Nat.le_trans HSZ.out HWA.out.size) hg2.size
      clear hown2 hg2 hat2 hsz3 hcell
      go_wp2_with fail
      go_roundw
      case rel => exact ⟨i + 1, by omega, by go_num, HALL2.out, HO2.out, HR2.out, HG2.out, HSZ4.out⟩
      case measure => simp [intOf]; omega
    · have hin : i = n := by omega
      subst hin
      have HALL2 : Hid (∀ k ∈ g, 0 ≤ k ∧ k ≤ 127 - b) := by
        have := HALL.out
        unfold Hid at this
        rw [List.take_of_length_le (by rw [HN.out]; exact Nat.le_refl _)] at this
        exact this
      have HO2 : Hid (wr.ownsRow w1.heap.size 3 1 u7 i (U.map (Value.int .i64))) := by
        have := HO.out
        unfold Hid at this
        rw [List.take_of_length_le (by rw [HUL.out]; exact Nat.le_refl _)] at this
        exact this
      have r0 := cell_of HR.out 0
      have r1 := cell_of HR.out 1
      have r2 := cell_of HR.out 2
      have r3 := cell_of HR.out 3
      have r4 := cell_of HR.out 4
      clear HO HALL
      go_upto_region 14 with fail
      clear r0 r1 r2 r3 r4
      obtain ⟨sb, hsb⟩ : ∃ sb, wr.heap.size = sb := ⟨_, rfl⟩
      obtain ⟨w3, hw3⟩ : ∃ w3, wr.alloc (.cells #[.int .i64 low, .int .i64 high, .bool above, .int .i64 leap, .int .i64 classes] 23) = w3 := ⟨_, rfl⟩
      have HW3 : Hid (wr.grownBy w3 none) := by unfold Hid; rw [← hw3]; exact grown_alloc (grown_refl _ _) _
      have HS3 : Hid (w3.heap[sb]? = some (.cells #[.int .i64 low, .int .i64 high, .bool above, .int .i64 leap, .int .i64 classes] 23 (0, 0))) := by unfold Hid; rw [← hw3, ← hsb]; exact heap_alloc_new _ _
      have HR3 : Hid (w3.heap[gb]? = some (.cells #[.int .i64 low, .int .i64 high, .bool above, .int .i64 leap, .int .i64 classes] 23 (0, 0))) := by unfold Hid; rw [HW3.out.block gb (lt_of HR.out) (by simp)]; exact HR.out
      have HO3 : Hid (w3.ownsRow w1.heap.size 3 1 u7 i (U.map (Value.int .i64))) := own_none HO2.out HW3.out
      have HG3 : Hid (w.grownBy w3 none) := grown_trans HG.out HW3.out
      have HGS : Hid (gb < sb) := by unfold Hid; rw [← hsb]; exact lt_of HR.out
      have HWS : Hid (w.heap.size ≤ sb) := by unfold Hid; rw [← hsb]; exact HG.out.size
      have HOB : Hid (u7.ownBlock ≠ some sb) := fun e => by have := (own_lt HO2.out e).1; omega
      simp only [hsb, hw3]
      clear hsb hw3 HR HO2 HG HSZ HW3
      have hgs := HGS.out
      have hss : sb < w3.heap.size := lt_of HS3.out
      have hne : Nonempty (LiesR gb low high above leap classes) := ⟨⟨w3, HR3.out⟩⟩
      have k0 : ∀ n : LiesR gb low high above leap classes, n.w.cell? ⟨gb, 0, none⟩ = some (.int .i64 low) := fun n => cell_of n.h 0
      have k1 : ∀ n : LiesR gb low high above leap classes, n.w.cell? ⟨gb, 1, none⟩ = some (.int .i64 high) := fun n => cell_of n.h 1
      have hsl := HSL.out
      have hsh := HSH.out
      refine Mixed.wp_region_mixed (liesR gb low high above leap classes) (fun k => k == 9 || k == 11) (by kernel_rfl) (by kernel_rfl) ⟨⟨w3.drew, HR3.out⟩, rfl⟩ ?_
      unfold liesR
      refine Mixed.wpM_quiet rfl rfl rfl ?_; intro Kx hKx; go_big_quiet_op; go_big_quiet_on
      refine Mixed.wpM_quiet rfl rfl rfl ?_; intro Kx hKx; go_big_quiet_op; go_big_quiet_on
      refine Mixed.wpM_quiet rfl rfl rfl ?_; intro Kx hKx; go_big_quiet_op; go_big_quiet_on
      refine Mixed.wpM_quiet rfl rfl rfl ?_; intro Kx hKx; go_big_quiet_op; go_big_quiet_on
      refine Mixed.wpM_quiet rfl rfl rfl ?_; intro Kx hKx; go_big_quiet_op; go_big_quiet_on
      refine Mixed.wpM_quiet rfl rfl rfl ?_; intro Kx hKx; go_big_quiet_op; go_big_quiet_on
      refine Mixed.wpM_quiet rfl rfl rfl ?_; intro Kx hKx; go_big_quiet_op; go_big_quiet_on
      refine Mixed.wpM_quiet rfl rfl rfl ?_; intro Kx hKx; go_big_quiet_op; go_big_quiet_on
      refine Mixed.wpM_quiet rfl rfl rfl ?_; intro Kx hKx; go_big_quiet_op; go_big_quiet_on
      obtain ⟨w4, hw4⟩ : ∃ w4, w3.drew = w4 := ⟨_, rfl⟩
      have HS4 : Hid (w4.heap[sb]? = some (.cells #[.int .i64 low, .int .i64 high, .bool above, .int .i64 leap, .int .i64 classes] 23 (0, 0))) := by unfold Hid; rw [← hw4]; exact HS3.out
      have HR4 : Hid (w4.heap[gb]? = some (.cells #[.int .i64 low, .int .i64 high, .bool above, .int .i64 leap, .int .i64 classes] 23 (0, 0))) := by unfold Hid; rw [← hw4]; exact HR3.out
      have HO4 : Hid (w4.ownsRow w1.heap.size 3 1 u7 i (U.map (Value.int .i64))) := by unfold Hid; rw [← hw4]; exact own_none HO3.out (grown_drew (grown_refl _ _))
      have HG4 : Hid (w.grownBy w4 none) := by unfold Hid; rw [← hw4]; exact grown_drew HG3.out
      simp only [hw4]
      clear hw4 HS3 HR3 HO3 HG3 hss
      have q0 := cell_of HS4.out 0
      have q1 := cell_of HS4.out 1
      have f0 := free_of HS4.out 0
      have f1 := free_of HS4.out 1
      refine wpM_store rfl rfl (w4.setCell ⟨sb, 0, none⟩ (.int .i64 sl)) (by go_simp) (liesR_of (by rw [set_other (by simp; omega)]; exact HR4.out)) ?_
      go_simp
      refine Mixed.wpM_quiet rfl rfl rfl ?_; intro Kx hKx; go_big_quiet_op; go_big_quiet_on
      refine wpM_store rfl rfl ((w4.setCell ⟨sb, 0, none⟩ (.int .i64 sl)).setCell ⟨sb, 1, none⟩ (.int .i64 sh)) (by go_simp) (liesR_of (by rw [set_other (by simp; omega), set_other (by simp; omega)]; exact HR4.out)) ?_
      refine Mixed.wpM_nil ?_
      intro nx hnx
      clear nx hnx k0 k1 hne q0 q1 f0 f1 hsl hsh
      obtain ⟨w5, hw5⟩ : ∃ w5, (w4.setCell ⟨sb, 0, none⟩ (.int .i64 sl)).setCell ⟨sb, 1, none⟩ (.int .i64 sh) = w5 := ⟨_, rfl⟩
      have HS5 : Hid (w5.heap[sb]? = some (.cells #[.int .i64 sl, .int .i64 sh, .bool above, .int .i64 leap, .int .i64 classes] 23 (0, 0))) := by unfold Hid; rw [← hw5, set_self (set_self HS4.out _) _]; rfl
      have HG45 : Hid (w4.grownBy w5 (some sb)) := by
        unfold Hid; rw [← hw5]; exact grown_set (p := ⟨sb, 1, none⟩) (grown_set (p := ⟨sb, 0, none⟩) (grown_refl w4 (some sb)) (.inl rfl) (.int .i64 sl)) (.inl rfl) (.int .i64 sh)
      have HR5 : Hid (w5.heap[gb]? = some (.cells #[.int .i64 low, .int .i64 high, .bool above, .int .i64 leap, .int .i64 classes] 23 (0, 0))) := by unfold Hid; rw [HG45.out.block gb (lt_of HR4.out) (by simp; omega)]; exact HR4.out
      have HO5 : Hid (w5.ownsRow w1.heap.size 3 1 u7 i (U.map (Value.int .i64))) := HO4.out.kept HG45.out (.inr HOB.out)
      have HG5 : Hid (w.grownBy w5 none) := grown_own HG4.out HG45.out (fun j h => by cases h; exact HWS.out)
      simp only [hw5]
      clear hw5 HS4 HR4 HO4 HG4 HG45
      have q4 := cell_of HS5.out 4
      have f4 := free_of HS5.out 4
      go_wp2_with fail
      obtain ⟨w6, hw6⟩ : ∃ w6, w5.setCell ⟨sb, 4, none⟩ (.int .i64 0) = w6 := ⟨_, rfl⟩
      have HS6 : Hid (w6.heap[sb]? = some (.cells #[.int .i64 sl, .int .i64 sh, .bool above, .int .i64 leap, .int .i64 (BU 0)] 23 (0, 0))) := by unfold Hid; rw [← hw6, set_self HS5.out _, HBZ.out]; rfl
      have HG56 : Hid (w5.grownBy w6 (some sb)) := by unfold Hid; rw [← hw6]; exact grown_set (p := ⟨sb, 4, none⟩) (grown_refl w5 (some sb)) (.inl rfl) _
      have HR6 : Hid (w6.heap[gb]? = some (.cells #[.int .i64 low, .int .i64 high, .bool above, .int .i64 leap, .int .i64 classes] 23 (0, 0))) := by unfold Hid; rw [HG56.out.block gb (lt_of HR5.out) (by simp; omega)]; exact HR5.out
      have HO6 : Hid (w6.ownsRow w1.heap.size 3 1 u7 i (U.map (Value.int .i64))) := HO5.out.kept HG56.out (.inr HOB.out)
      have HG6 : Hid (w.grownBy w6 none) := grown_own HG5.out HG56.out (fun j h => by cases h; exact HWS.out)
      simp only [hw6]
      clear hw6 HS5 HR5 HO5 HG5 HG56 q4 f4
      go_loopw [11] (fun v11 wr => ∃ k : Nat, k ≤ 12 ∧ v11 = .int .i64 (k : Int) ∧ Hid (wr.heap[sb]? = some (.cells #[.int .i64 sl, .int .i64 sh, .bool above, .int .i64 leap, .int .i64 (BU k)] 23 (0, 0))) ∧ Hid (wr.heap[gb]? = some (.cells #[.int .i64 low, .int .i64 high, .bool above, .int .i64 leap, .int .i64 classes] 23 (0, 0))) ∧
        Hid (wr.ownsRow w1.heap.size 3 1 u7 i (U.map (Value.int .i64))) ∧ Hid (w.grownBy wr none)) (fun v11 _ => 12 - (intOf v11).toNat)
      case atStart => exact ⟨0, by omega, rfl, HS6.out, HR6.out, HO6.out, HG6.out⟩
      case round =>
        obtain ⟨k, hk, rfl, HS, HR, HO, HG⟩ := hrel
        by_cases hend : k = 12
        · subst hend
          have r0 := cell_of HR.out 0
          have r1 := cell_of HR.out 1
          by_cases hl0 : low < 0
          · go_wp2_with fail
            go_ret
            exact ⟨rfl, HG.out⟩
          by_cases hlh : high < low
          · go_wp2_with fail
            go_ret
            exact ⟨rfl, HG.out⟩
          have HY : Hid (Ils wr u7 U) := by
            unfold Hid Ils
            exact owns_sl HO.out (by rw [List.length_map]) (fun j u x h1 h2 => by rw [List.getElem?_map, h2] at h1; simpa using h1.symm)
          obtain ⟨a3, c3, hu7, _⟩ := sl_open HY.out
          rw [HUL.out] at hu7
          subst hu7
          obtain ⟨e1, e2, e3, e4⟩ := HAL.out HALL2.out (by omega) (by omega)
          have CCU2 := Lib.hid (fun w' hx => CCU.out w' a3 c3 hx)
          have CFU2 := Lib.hid (fun w' hx => CFU.out w' a3 c3 hx)
          rw [e1, e2] at CCU2
          rw [e3, e4] at CFU2
          have HFK2 := Lib.hid HFK.out
          clear e1 e2 e3 e4 CCU CFU HAL HFK HO
          obtain ⟨FE, hFE⟩ : ∃ x, findE ⟨low, high, above, leap, classes⟩ g = x := ⟨_, rfl⟩
          obtain ⟨FL, hFL⟩ : ∃ x, findL ⟨low, high, above, leap, classes⟩ g = x := ⟨_, rfl⟩
          obtain ⟨V, hV⟩ : ∃ x, cntV ⟨low, high, above, leap, classes⟩ g = x := ⟨_, rfl⟩
          obtain ⟨R, hR⟩ : ∃ x, wrongR ⟨low, high, above, leap, classes⟩ g = x := ⟨_, rfl⟩
          rw [hV, hR] at CCU2 CC
          rw [hFE, hFL] at CFU2 CF
          rw [hFL] at HFK2 HFN
          rw [HN.out] at HFN
          clear hFE hFL hV hR
          obtain ⟨w7, rfl⟩ : ∃ w7 : World, w7 = wr := ⟨_, rfl⟩
          have HG7 := HG
          have HR7 := HR
          have HS7 := HS
          have HY7 := HY
          have r2 := cell_of HR.out 2
          have r3 := cell_of HR.out 3
          have r4 := cell_of HR.out 4
          clear HG HR HS HY
          go_upto_region 29 with (go_at_call 8; refine (CC.out _ HG7.out).mono ?_; rintro e w8 ⟨rfl, hg8⟩)
          clear r0 r1 r2 r3 r4
          have HG8 : Hid (w.grownBy w8 none) := grown_trans HG7.out hg8.out
          have HR8 : Hid (w8.heap[gb]? = some (.cells #[.int .i64 low, .int .i64 high, .bool above, .int .i64 leap, .int .i64 classes] 23 (0, 0))) := by unfold Hid; rw [hg8.out.block gb (lt_of HR7.out) (by simp)]; exact HR7.out
          have HS8 : Hid (w8.heap[sb]? = some (.cells #[.int .i64 sl, .int .i64 sh, .bool above, .int .i64 leap, .int .i64 (BU 12)] 23 (0, 0))) := by unfold Hid; rw [hg8.out.block sb (lt_of HS7.out) (by simp)]; exact HS7.out
          have HY8 : Hid (Ils w8 (.slice a3 i c3) U) := Ils.grown HY7.out hg8.out
          have r80 := cell_of HR8.out 0
          have s80 := cell_of HS8.out 0
          have r81 := cell_of HR8.out 1
          have s81 := cell_of HS8.out 1
          have r82 := cell_of HR8.out 2
          have s82 := cell_of HS8.out 2
          have r83 := cell_of HR8.out 3
          have s83 := cell_of HS8.out 3
          have r84 := cell_of HR8.out 4
          have s84 := cell_of HS8.out 4
          go_upto_region 30 with (go_at_call 8; refine (CCU2.out _ HY8.out).mono ?_; rintro e w9 ⟨rfl, hg9⟩)
          clear r80 s80 r81 s81 r82 s82 r83 s83 r84 s84
          have HG9 : Hid (w.grownBy w9 none) := grown_trans HG8.out hg9.out
          have HR9 : Hid (w9.heap[gb]? = some (.cells #[.int .i64 low, .int .i64 high, .bool above, .int .i64 leap, .int .i64 classes] 23 (0, 0))) := by unfold Hid; rw [hg9.out.block gb (lt_of HR8.out) (by simp)]; exact HR8.out
          have HS9 : Hid (w9.heap[sb]? = some (.cells #[.int .i64 sl, .int .i64 sh, .bool above, .int .i64 leap, .int .i64 (BU 12)] 23 (0, 0))) := by unfold Hid; rw [hg9.out.block sb (lt_of HS8.out) (by simp)]; exact HS8.out
          have HY9 : Hid (Ils w9 (.slice a3 i c3) U) := Ils.grown HY8.out hg9.out
          have r90 := cell_of HR9.out 0
          have s90 := cell_of HS9.out 0
          have r91 := cell_of HR9.out 1
          have s91 := cell_of HS9.out 1
          have r92 := cell_of HR9.out 2
          have s92 := cell_of HS9.out 2
          have r93 := cell_of HR9.out 3
          have s93 := cell_of HS9.out 3
          have r94 := cell_of HR9.out 4
          have s94 := cell_of HS9.out 4
          go_upto_region 31 with (go_at_call 9; refine (CF.out _ HG9.out).mono ?_; rintro e w10 ⟨v, rfl, hx10, hg10⟩)
          clear r90 s90 r91 s91 r92 s92 r93 s93 r94 s94
          have HG10 : Hid (w.grownBy w10 none) := grown_trans HG9.out hg10.out
          have HR10 : Hid (w10.heap[gb]? = some (.cells #[.int .i64 low, .int .i64 high, .bool above, .int .i64 leap, .int .i64 classes] 23 (0, 0))) := by unfold Hid; rw [hg10.out.block gb (lt_of HR9.out) (by simp)]; exact HR9.out
          have HS10 : Hid (w10.heap[sb]? = some (.cells #[.int .i64 sl, .int .i64 sh, .bool above, .int .i64 leap, .int .i64 (BU 12)] 23 (0, 0))) := by unfold Hid; rw [hg10.out.block sb (lt_of HS9.out) (by simp)]; exact HS9.out
          have HY10 : Hid (Ils w10 (.slice a3 i c3) U) := Ils.grown HY9.out hg10.out
          have r100 := cell_of HR10.out 0
          have s100 := cell_of HS10.out 0
          have r101 := cell_of HR10.out 1
          have s101 := cell_of HS10.out 1
          have r102 := cell_of HR10.out 2
          have s102 := cell_of HS10.out 2
          have r103 := cell_of HR10.out 3
          have s103 := cell_of HS10.out 3
          have r104 := cell_of HR10.out 4
          have s104 := cell_of HS10.out 4
          go_upto_region 32 with (go_at_call 9; refine (CFU2.out _ HY10.out).mono ?_; rintro e w11 ⟨v', rfl, hy11, hg11⟩)
          clear r100 s100 r101 s101 r102 s102 r103 s103 r104 s104
          have HX11 := Lib.hid (Ils.grown hx10.out hg11.out)
          obtain ⟨a4, c4, rfl, _⟩ := sl_open HX11.out
          obtain ⟨a5, c5, rfl, _⟩ := sl_open hy11.out
          have HG11 : Hid (w.grownBy w11 none) := grown_trans HG10.out hg11.out
          obtain ⟨m, hm⟩ : ∃ m, FL.length = m := ⟨_, rfl⟩
          have HM := Lib.hid hm
          have hy12 := hy11.out
          unfold Hid at hy12
          rw [List.length_map, hm] at hy12 ⊢
          have hx12 := HX11.out
          unfold Hid at hx12
          rw [hm] at hx12
          have HX := Lib.hid hx12
          have HY := Lib.hid hy12
          clear hx12 hy12 hm HX11 hy11 hx10
          go_wp2_with fail
          have hm63 : (m : Int) < 9223372036854775807 := by
            have := HFN.out
            have := HM.out
            omega
          go_loopw [170] (fun v170 wr => ∃ j : Nat, j ≤ m ∧ v170 = .int .i64 (j : Int) ∧ Hid (w11.grownBy wr none)) (fun v170 _ => m - (intOf v170).toNat)
          case atStart => exact ⟨0, Nat.zero_le _, rfl, grown_refl _ _⟩
          case round =>
            obtain ⟨j, hj, rfl, HGJ⟩ := hrel
            by_cases hje : j = m
            · subst hje
              go_wp2_with fail
              go_ret
              exact ⟨rfl, grown_trans HG11.out HGJ.out⟩
            have hjl : j < m := by omega
            have hjl2 : (j : Int) < (m : Int) := by omega
            obtain ⟨bx, ox, rfl, hcx⟩ := giv_at HX.out (i := j) (by rw [HM.out]; exact hjl)
            obtain ⟨by_, oy, rfl, hcy⟩ := giv_at HY.out (i := j) (by rw [List.length_map, HM.out]; exact hjl)
            have hcx2 := grown_cell HGJ.out hcx (by simp)
            have hcy2 := grown_cell HGJ.out hcy (by simp)
            have hmem : at_ FL j ∈ FL := by
              unfold at_
              rw [List.getD_eq_getElem?_getD, List.getElem?_eq_getElem (by rw [HM.out]; exact hjl)]
              exact List.getElem_mem _
            have hmap : at_ (FL.map (· + b)) j = at_ FL j + b := by
              unfold at_
              rw [List.getD_eq_getElem?_getD, List.getD_eq_getElem?_getD, List.getElem?_map, List.getElem?_eq_getElem (by rw [HM.out]; exact hjl)]
              rfl
            obtain ⟨z0, z1⟩ := HFK2.out _ hmem
            rw [hmap] at hcy2
            obtain ⟨z, hz⟩ : ∃ z, at_ FL j = z := ⟨_, rfl⟩
            rw [hz] at hcx2 hcy2 z0 z1
            clear hcx hcy hmem hmap hz
            go_wp2_with fail
            go_quiet (fail)
            clear hcx2 hcy2
            go_wp2_with fail
            exact ⟨⟨j + 1, by omega, rfl, grown_drewN HGJ.out _⟩, by simp only [intOf]; omega⟩
        have hlt : k < 12 := by omega
        have r4 := cell_of HR.out 4
        have HSTEP := Lib.hid (HB12.out k hlt)
        obtain ⟨bk0, bk1⟩ := HBD.out k hk
        obtain ⟨bl0, bl1⟩ := HBD.out (k + 1) hlt
        obtain ⟨q, hq⟩ : ∃ q : Nat, ((k : Int) + b) % 12 = q := ⟨(((k : Int) + b) % 12).toNat, by omega⟩
        have hq12 : q < 12 := by omega
        rw [hq, Int.toNat_natCast] at HSTEP
        have HQ := Lib.hid hq
        clear hq
        cases hmay : mayB classes (k : Int)
        · rw [hmay, if_neg (by decide)] at HSTEP
          have MC := Lib.hid (fun w' => may_calls classes (k : Int) w' ⟨cl0, cl1⟩ ⟨by omega, by omega⟩)
          rw [hmay] at MC
          clear hmay
          go_wp2_with (go_at_call 7; refine (MC.out _).mono ?_; rintro e w' ⟨rfl, rfl⟩)
          go_roundw
          case rel => exact ⟨k + 1, by omega, by go_num, by unfold Hid; rw [HSTEP.out]; exact HS.out, HR.out, HO.out, HG.out⟩
          case measure => simp [intOf]; omega
        · rw [hmay, if_pos rfl] at HSTEP
          have MC := Lib.hid (fun w' => may_calls classes (k : Int) w' ⟨cl0, cl1⟩ ⟨by omega, by omega⟩)
          rw [hmay] at MC
          clear hmay
          go_wp2_with (go_at_call 7; refine (MC.out _).mono ?_; rintro e w' ⟨rfl, rfl⟩)
          clear r4
          obtain ⟨wo, rfl⟩ : ∃ wo : World, wo = w' := ⟨_, rfl⟩
          have ht : Int.tmod ((k : Int) + b) 12 = (q : Int) := by rw [Int.tmod_eq_emod_of_nonneg (by omega)]; exact HQ.out
          have ht2 : ((k : Int) + b) % 12 = (q : Int) := HQ.out
          have HPB : Hid (∀ j, j < 12 → (1 : Int) ≤ 2 ^ j ∧ (2 : Int) ^ j ≤ 2048) := fun j hj => pow_bd j hj
          have HPN : Hid (∀ j : Nat, (2 : Int) ^ (j + 1) = 2 * 2 ^ j) := fun j => (RMovW.pow_next j).symm
          have HPZ : Hid ((2 : Int) ^ 0 = 1) := rfl
          obtain ⟨p, hp⟩ : ∃ p : Nat → Int, (fun j => (2 : Int) ^ j) = p := ⟨_, rfl⟩
          have hp' : ∀ j, (2 : Int) ^ j = p j := fun j => by rw [← hp]
          simp only [hp'] at HPB HPN HPZ HSTEP
          clear hp hp'
          go_loopw [12, 13] (fun v12 v13 wr => ∃ j : Nat, j ≤ q ∧ v13 = .int .i64 (j : Int) ∧ v12 = .int .i64 (p j) ∧ Hid (wr = wo)) (fun _ v13 _ => q - (intOf v13).toNat)
          case atStart => exact ⟨0, Nat.zero_le _, rfl, by rw [HPZ.out], rfl⟩
          case round =>
            obtain ⟨j, hj, rfl, rfl, HWX⟩ := hrel
            by_cases hje : j = q
            · have HPJ : Hid (p j = p q) := by rw [hje]; rfl
              subst hje
              have HS2 : Hid (wr.heap[sb]? = some (.cells #[.int .i64 sl, .int .i64 sh, .bool above, .int .i64 leap, .int .i64 (BU k)] 23 (0, 0))) := by unfold Hid; rw [HWX.out]; exact HS.out
              have HR2 : Hid (wr.heap[gb]? = some (.cells #[.int .i64 low, .int .i64 high, .bool above, .int .i64 leap, .int .i64 classes] 23 (0, 0))) := by unfold Hid; rw [HWX.out]; exact HR.out
              have HO2 : Hid (wr.ownsRow w1.heap.size 3 1 u7 i (U.map (Value.int .i64))) := by unfold Hid; rw [HWX.out]; exact HO.out
              have HG2 : Hid (w.grownBy wr none) := by unfold Hid; rw [HWX.out]; exact HG.out
              clear HWX HS HR HO HG
              obtain ⟨p0, p1⟩ := HPB.out j (by omega)
              obtain ⟨x, hx⟩ : ∃ x, p j = x := ⟨_, rfl⟩
              rw [hx] at p0 p1 HSTEP
              simp only [hx]
              obtain ⟨y, hy⟩ : ∃ y, BU k = y := ⟨_, rfl⟩
              rw [hy] at HSTEP HS2 bk0 bk1
              clear hx hy HPJ
              have q4 := cell_of HS2.out 4
              have f4 := free_of HS2.out 4
              go_wp2_with fail
              have HG3 : Hid (wr.grownBy (wr.setCell ⟨sb, 4, none⟩ (.int .i64 (y + x))) (some sb)) := grown_set (p := ⟨sb, 4, none⟩) (grown_refl wr (some sb)) (.inl rfl) _
              have HS3 : Hid ((wr.setCell ⟨sb, 4, none⟩ (.int .i64 (y + x))).heap[sb]? = some (.cells #[.int .i64 sl, .int .i64 sh, .bool above, .int .i64 leap, .int .i64 (BU (k + 1))] 23 (0, 0))) := by unfold Hid; rw [set_self HS2.out _, HSTEP.out]; rfl
              have HR3 : Hid ((wr.setCell ⟨sb, 4, none⟩ (.int .i64 (y + x))).heap[gb]? = some (.cells #[.int .i64 low, .int .i64 high, .bool above, .int .i64 leap, .int .i64 classes] 23 (0, 0))) := by unfold Hid; rw [HG3.out.block gb (lt_of HR2.out) (by simp; omega)]; exact HR2.out
              go_roundw
              case rel => exact ⟨k + 1, by omega, by go_num, HS3.out, HR3.out, HO2.out.kept HG3.out (.inr HOB.out), grown_own HG2.out HG3.out (fun j h => by cases h; exact HWS.out)⟩
              case measure => simp [intOf]; omega
            · have hjl : j < q := by omega
              obtain ⟨p0, p1⟩ := HPB.out j (by omega)
              have HPJ := Lib.hid (HPN.out j)
              obtain ⟨x, hx⟩ : ∃ x, p j = x := ⟨_, rfl⟩
              rw [hx] at p0 p1 HPJ
              simp only [hx]
              clear hx
              go_wp2_with fail
              go_roundw
              case rel => exact ⟨j + 1, by omega, by go_num, by rw [HPJ.out], HWX.out⟩
              case measure => simp [intOf]; omega

end Go.Proofs.Ythdohdllpaijhaa.RMovM
