/- Count. -/
import Derived.Test.YthdohdllpaijhaaRTab
import Derived.Test.YthdohdllpaijhaaRWrong
namespace Go.Proofs.Ythdohdllpaijhaa.RCount
open Go Go.RowKit Go.Proofs.Ythdohdllpaijhaa.RMod Go.Proofs.Ythdohdllpaijhaa.RCnt Go.Proofs.Ythdohdllpaijhaa.RMap Go.Proofs.Ythdohdllpaijhaa.ROn Go.Proofs.Ythdohdllpaijhaa.RTab Go.Proofs.Ythdohdllpaijhaa.RWrong Go.Proofs.Ythdohdllpaijhaa.RAlone Go.Proofs.Ythdohdllpaijhaa.Hp Go.Proofs.Ythdohdllpaijhaa.Rd
set_option linter.unusedVariables false
set_option linter.unusedSimpArgs false

def cntV (r : Ru) (g : List Int) : Int := if wrongR r g = 0 then (countC r g : Int) else 0
def cntF (T : Int → Bool → Nat) (t : Int × Bool) : Nat := if t.2 = false then T t.1 t.2 else 0

theorem Tabs.first {w : World} {cb n : Nat} {T : Nat → Int → Bool → Nat} (h : Tabs w cb n (n + 1) T) {i : Nat} (hi : i ≤ n) : ∃ b, w.cell? ⟨cb, i, none⟩ = some (.map (some b)) ∧ Tab w b 256 (T i) := by
  obtain ⟨f, hr, hd⟩ := h
  obtain ⟨b, e1, _, e3⟩ := hd i (by omega) hi
  exact ⟨b, by rw [(hr.at hi).1, e1], e3⟩

set_option maxHeartbeats 4000000 in
set_option maxRecDepth 100000 in
theorem count_calls (r : Ru) (ao : Option Addr) (cp : Nat) (g : List Int) (w : World) (hv : Ils w (.slice ao g.length cp) g) :
    Calls Try.prog 8 #[.agg #[.int .i64 r.low, .int .i64 r.high, .bool r.above, .int .i64 r.leap, .int .i64 r.classes], .slice ao g.length cp] w
      fun e w' => e = .returned (.tuple #[.int .i64 (cntV r g), .int .i64 (wrongR r g)]) ∧ Hid (w.grownBy w' none) := by
  have W1 := Lib.hid (fun w' hg => wrong_calls r ao cp g w' (Ils.grown hv hg))
  have HV := Lib.hid hv
  by_cases h0 : wrongR r g = 0
  · have hok := okG_of h0
    have hlen := hok.len
    obtain ⟨n, hn⟩ : ∃ n, g.length = n + 1 := ⟨g.length - 1, by omega⟩
    have T1 := Lib.hid (fun w' hg => table_calls r ao cp g n w' hn hok (Ils.grown hv hg))
    have HCV : Hid (cntV r g = (min (sumL (uni r) (cntF (tabC r g n))) cap : Nat)) := by
      unfold Hid cntV countC
      rw [if_pos h0, hn]
      rfl
    have HRS := Lib.hid hok.rules
    have TR : Hid (∀ k s, 0 < tabC r g n k s → r.low ≤ k ∧ k ≤ r.high) := fun k s h => tabC_range h
    have TL : Hid (∀ k s, tabC r g n k s ≤ cap) := fun k s => tabC_le _ _ _ _ _
    obtain ⟨V, hVV⟩ : ∃ V, cntV r g = V := ⟨_, rfl⟩
    rw [hVV] at HCV ⊢
    rw [h0] at W1 ⊢
    rw [hn] at hlen W1 T1 ⊢
    clear hv hok hn hVV h0
    obtain ⟨low, high, above, leap, classes⟩ := r
    simp only at W1 T1 TR ⊢
    have HG0 : Hid (w.grownBy (w.alloc (.cells #[.int .i64 low, .int .i64 high, .bool above, .int .i64 leap, .int .i64 classes] 23)) none) := grown_alloc (grown_refl _ _) _
    have hrow : (w.alloc (.cells #[.int .i64 low, .int .i64 high, .bool above, .int .i64 leap, .int .i64 classes] 23)).heap[w.heap.size]? = some (.cells #[.int .i64 low, .int .i64 high, .bool above, .int .i64 leap, .int .i64 classes] 23 (0, 0)) := heap_alloc_new _ _
    have HROW0 := Lib.hid hrow
    clear hrow
    have hs0 : w.heap.size < (w.alloc (.cells #[.int .i64 low, .int .i64 high, .bool above, .int .i64 leap, .int .i64 classes] 23)).heap.size := by simp
    have HS0 := Lib.hid hs0
    clear hs0
    go_enter Try.func8, Try.ntmps8
    go_upto_region 5 with (go_at_call 10; refine (W1.out _ HG0.out).mono ?_; rintro e w1 ⟨rfl, hg1⟩)
    have HG1 : Hid (w.grownBy w1 none) := grown_trans HG0.out hg1.out
    have HROW1 : w1.heap[w.heap.size]? = some (.cells #[.int .i64 low, .int .i64 high, .bool above, .int .i64 leap, .int .i64 classes] 23 (0, 0)) := by
      rw [hg1.out.block _ HS0.out (by simp)]; exact HROW0.out
    have r0 := cell_of HROW1 0
    have r1 := cell_of HROW1 1
    have r2 := cell_of HROW1 2
    have r3 := cell_of HROW1 3
    have r4 := cell_of HROW1 4
    clear HROW1
    obtain ⟨TB, hTB⟩ : ∃ f, tabC ⟨low, high, above, leap, classes⟩ g n = f := ⟨_, rfl⟩
    have HTB := Lib.hid hTB
    rw [hTB] at HCV TR TL
    clear hTB
    go_wp2_with (first
      | (go_at_call 18; refine (T1.out _ HG1.out).mono ?_; rintro e w2 ⟨cb, rfl, hcb, htabs, hg2⟩; obtain ⟨bm, hcell, htab⟩ := Tabs.first htabs.out (Nat.zero_le n); rw [Nat.sub_zero, HTB.out] at htab; obtain ⟨D, hown, hat0, hhas⟩ := htab; have HAT := Lib.hid hat0; have HHAS := Lib.hid hhas; have HOWN := Lib.hid hown; clear hat0 hhas)
      | (at_range; refine wpList_range_own _ rfl _ 38 rfl 43 3 law43 under38 RI bm 256 D rfl hown ?_; intro w0 hrg0 hgr0 hs0)
      | go_in)
    try go_frame
    have HG2 : Hid (w.grownBy w2 none) := grown_trans HG1.out hg2.out
    have HGR0 : Hid (w2.grownBy w0 none) := hgr0
    obtain ⟨F, hF⟩ : ∃ F, cntF TB = F := ⟨_, rfl⟩
    rw [hF] at HCV
    have FV : Hid (∀ k s, F (k, s) = if s = false then TB k s else 0) := fun k s => by rw [← hF]; rfl
    have hsz2 : bm < w2.heap.size := HOWN.out.lt
    obtain ⟨rb, hrb⟩ : ∃ rb, w2.heap.size = rb := ⟨_, rfl⟩
    have HRB := Lib.hid hrb
    rw [hrb] at hrg0 hsz2 ⊢
    clear hF hgr0 hs0 r0 r1 r2 r3 r4 hcell hown hrb
    go_loopw [7, 8, 9] (fun v7 v8 v9 wr => ∃ (left : Lit → Bool) (cnt acc : Nat), wr.ranges Try.prog 43 RI bm rb 256 D left cnt ∧ v7 = .int .i64 (acc : Int) ∧ acc ≤ cap ∧ Hid (acc = come ⟨low, high, above, leap, classes⟩ left F) ∧ Hid (w2.grownBy wr none))
      (fun _ _ _ wr => wr.rangeLeft bm rb)
    case atStart =>
      refine ⟨_, _, 0, hrg0, rfl, Nat.zero_le _, ?_, HGR0.out⟩
      unfold Hid
      rw [come_start HRS.out HHAS.out (fun k s h => by rw [FV.out]; split; exact h; rfl)]
    case round =>
      obtain ⟨left, cnt, acc, hrg, rfl, hacc, HA, HGR⟩ := hrel
      have hle : wr.rangeLeft bm rb = cnt := hrg.left_eq
      go_wp2_with (first
        | (at_next; refine wpList_next_ranges _ rfl _ rfl 43 law43 RI (fun p : St => .agg #[.int .i64 p.k, .bool p.s]) (Value.int .i64) (fun key kl h => by obtain ⟨k, s, rfl, _, _⟩ := keyOf_inv h; exact ⟨⟨k, s⟩, rfl⟩) (fun v y h => by obtain ⟨c, rfl, _⟩ := plainElem_int_inv under3 h; exact ⟨c, rfl⟩) bm rb 256 D left cnt rfl hrg ?_ ?_)
        | go_in)
      · intro hc0 hl0
        have HX : Hid ((acc : Int) = V) := by
          unfold Hid
          rw [HA.out, HCV.out, come_end hl0]
        have HGF : Hid (w.grownBy wr none) := grown_trans HG2.out HGR.out
        clear hrg
        go_wp2_with fail
        go_ret2
        exact ⟨by rw [← HX.out]; rfl, HGF.out⟩
      · intro x c kl0 ya yb w1 cnt1 hkey hlx hval hat hrg1 hlt hg1 hs1 hen
        obtain ⟨k, s⟩ := x
        dsimp only at hkey hen ⊢
        obtain ⟨k', s', e, hw, rfl⟩ := keyOf_inv hkey
        simp only [Value.agg.injEq, Array.mk.injEq, List.cons.injEq, Value.int.injEq, Value.bool.injEq, and_true, true_and] at e
        obtain ⟨rfl, rfl⟩ := e
        obtain ⟨c', ec, ey, hwc⟩ := plainElem_int_inv under3 hval
        simp only [Value.int.injEq, true_and, Prod.mk.injEq] at ec ey
        obtain rfl := ec
        obtain ⟨rfl, _⟩ := ey
        have e2 := HAT.out k s hw
        rw [hat] at e2
        simp only [DataW.lit.injEq, Lit.int.injEq, true_and] at e2
        obtain rfl := e2
        have hpos : 0 < TB k s := by
          have h1 := Maps.has_true_of_atKey hat
          rw [HHAS.out k s hw] at h1
          simpa using h1
        have hin : (k, s) ∈ uni ⟨low, high, above, leap, classes⟩ := mem_uni.2 (TR.out k s hpos)
        have HCS : Hid (come ⟨low, high, above, leap, classes⟩ (fun z => left z && !z.sameKey (kl k s)) F = min (acc + F (k, s)) cap) := by
          unfold Hid; rw [come_step HRS.out hin hlx, ← HA.out]
        have htl := TL.out k s
        have HFV := Lib.hid (FV.out k s)
        obtain ⟨m, hm⟩ : ∃ m, TB k s = m := ⟨_, rfl⟩
        rw [hm] at htl HFV
        simp only [hm] at hen ⊢
        have hgr1 : Hid (w2.grownBy w1 none) := grown_from HGR.out hg1 (.inl (by rw [HRB.out]; omega))
        have hw1s : rb < w1.heap.size := hrg1.lt
        have HRG1 := Lib.hid hrg1
        clear hrg hrg1 hg1 hlx hs1 hat hval hkey hwc
        have hcap : cap = 1000000000 := rfl
        rw [hcap] at hacc htl HCS
        have hga : Hid (w1.grownBy (w1.alloc (.cells #[.int .i64 k, .bool s] 43)) none) := grown_alloc (grown_refl _ _) _
        cases s
        · rw [HFV.out] at HCS
          go_wp2_with fail
          have hr3 := HRG1.out.kept hga.out (by simp) (by simp)
          refine ⟨⟨_, _, min (acc + m) 1000000000, hr3, ?_, ?_, ?_, grown_trans hgr1.out hga.out⟩, ?_⟩
          · rw [Value.int.injEq]
            refine ⟨rfl, ?_⟩
            split <;> omega
          · rw [hcap]; exact Nat.min_le_right _ _
          · unfold Hid; rw [HCS.out]; rfl
          · rw [hr3.left_eq, hle]; exact hlt
        · rw [HFV.out] at HCS
          go_wp2_with fail
          have hr3 := HRG1.out.kept hga.out (by simp) (by simp)
          refine ⟨⟨_, _, acc, hr3, rfl, by rw [hcap]; exact hacc, ?_, grown_trans hgr1.out hga.out⟩, ?_⟩
          · unfold Hid; rw [HCS.out, if_neg (by simp)]; omega
          · rw [hr3.left_eq, hle]; exact hlt
  · have HCV : Hid (cntV r g = 0) := by unfold Hid cntV; rw [if_neg h0]
    obtain ⟨V, hVV⟩ : ∃ V, cntV r g = V := ⟨_, rfl⟩
    rw [hVV] at HCV ⊢
    obtain ⟨R, hR⟩ : ∃ R, wrongR r g = R := ⟨_, rfl⟩
    rw [hR] at W1 h0 ⊢
    obtain ⟨n, hn⟩ : ∃ n, g.length = n := ⟨_, rfl⟩
    rw [hn] at W1 ⊢
    have h0' : (R != 0) = true := by simpa using h0
    clear hv hn hVV hR
    obtain ⟨low, high, above, leap, classes⟩ := r
    simp only at W1 ⊢
    have HG0 : Hid (w.grownBy (w.alloc (.cells #[.int .i64 low, .int .i64 high, .bool above, .int .i64 leap, .int .i64 classes] 23)) none) := grown_alloc (grown_refl _ _) _
    go_enter Try.func8, Try.ntmps8
    go_wp2_with (go_at_call 10; refine (W1.out _ HG0.out).mono ?_; rintro e w1 ⟨rfl, hg1⟩)
    go_ret2
    exact ⟨by rw [HCV.out]; rfl, grown_trans HG0.out hg1.out⟩
end Go.Proofs.Ythdohdllpaijhaa.RCount
