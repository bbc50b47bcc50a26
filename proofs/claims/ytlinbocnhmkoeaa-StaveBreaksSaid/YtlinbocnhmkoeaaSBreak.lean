/- Break, the program's. -/
import Derived.Test.YtlinbocnhmkoeaaSTab
import Derived.Test.YtlinbocnhmkoeaaApp
import Derived.Deep.RegionWith
namespace Go.Proofs.Ytlinbocnhmkoeaa.SBreak
open Go Go.RowKit Go.Proofs.Ytlinbocnhmkoeaa.SMod Go.Proofs.Ytlinbocnhmkoeaa.SBest Go.Proofs.Ytlinbocnhmkoeaa.SCost Go.Proofs.Ytlinbocnhmkoeaa.SWrong Go.Proofs.Ytlinbocnhmkoeaa.SSum Go.Proofs.Ytlinbocnhmkoeaa.STab Go.Proofs.Ytlinbocnhmkoeaa.Opn Go.Proofs.Ytlinbocnhmkoeaa.Hp Go.Proofs.Ytlinbocnhmkoeaa.Rd
set_option linter.unusedVariables false

theorem info43 : (Try.prog.info? 43).map (fun i => (i.zero, i.size, i.bytes)) = some (some (.agg #[.int .i64 0, .int .i64 0, .int .i64 0]), 3, 24) := by kernel_rfl
theorem info3 : (Try.prog.info? 3).map (fun i => (i.zero, i.size, i.bytes)) = some (some (.int .i64 0), 1, 8) := by kernel_rfl

def BreakPost (l : List Bx) (W : Int) (w : World) (e : Ending) (w' : World) : Prop := Hid (w.grownBy w' none) ∧
  ((wrongS l W ≠ 0 ∧ e = .returned (.tuple #[.slice none 0 0, .int .i64 0, .int .i64 (wrongS l W)])) ∨
   (wrongS l W = 0 ∧ (∀ r, pathC l W 0 l.length r = none) ∧ e = .returned (.tuple #[.slice none 0 0, .int .i64 0, .int .i64 6])) ∨
   (wrongS l W = 0 ∧ ∃ v c R, Best l W 0 l.length c R ∧ Ils w' v (R.map fun n : Nat => (n : Int)) ∧ e = .returned (.tuple #[v, .int .i64 c, .int .i64 0])))

/-- One number behind an own row. -/
theorem append_int {w : World} {ops : Array Oper} {rest : List Oper} {o : Oper} {a : Act} {Q : Exit → Act → World → Prop} (hgd : o.guard = none) (s x : Operand)
    (ho : o.op = .call { callee := .builtin .append, args := #[s, x], argTypes := #[23, 23] }) (base : Nat) (v : Value) (n : Nat) (xs : List Value) (hs : a.eval s = v) (d : Int)
    (hown : w.ownsRow base 3 1 v n xs) (hx : a.eval x = .slice (some ⟨w.heap.size, 0, none⟩) 1 1) (hn : n ≤ 1099511627776) (hbase : base ≤ w.heap.size)
    (h : ∀ v' w', Hid (w'.ownsRow base 3 1 v' (n + 1) (xs ++ [.int .i64 d])) → Hid (Gr base [3] w w') → wpList Try.prog ops Q rest (a.put o.dst v') w') :
    wpList Try.prog ops Q (o :: rest) a (w.alloc (.cells #[.int .i64 d] 3)) := by
  obtain ⟨i0, hi, hz0, hz1, hz2⟩ := info_parts info3
  refine wpList_append_own _ hgd s x 23 ho base 3 i0 (.int .i64 0) 1 8 Try.underlying23 hi hz0 hz1 hz2 rfl (by decide) v n xs hs (hown.alloc _) ⟨w.heap.size, 0, none⟩ 1 1 [.int .i64 d] hx rfl ?_ ?_ ?_ ?_ ?_ ?_
  · exact cell_one_new _ _ _
  · intro u hu; simp at hu; subst hu; rfl
  · unfold maxLen; omega
  · omega
  · simp; omega
  · intro v' w5 hown5 hg5 _
    exact h v' w5 hown5 ((Gr.alloc (Gr.refl _ _ _) _).trans (.of_append (hown.alloc _) hg5 (by simp)))

def intV (n : Nat) : Value := .int .i64 n

set_option maxHeartbeats 4000000 in
set_option maxRecDepth 100000 in
theorem break_good (ao : Option Addr) (cap : Nat) (l : List Bx) (W : Int) (w : World) (hv : Bxs w (.slice ao l.length cap) l) (hok : wrongS l W = 0) :
    Calls Try.prog 8 #[.slice ao l.length cap, .int .i64 W] w fun e w' => Hid (w.grownBy w' none) ∧ (((∀ r, pathC l W 0 l.length r = none) ∧ e = .returned (.tuple #[.slice none 0 0, .int .i64 0, .int .i64 6])) ∨
      ∃ v c R, Best l W 0 l.length c R ∧ Ils w' v (R.map fun n : Nat => (n : Int)) ∧ e = .returned (.tuple #[v, .int .i64 c, .int .i64 0])) := by
  obtain ⟨ho1, ho2, ho3, ho4⟩ := wrongS_ok hok
  have A1 := Lib.hid (wrong_calls ao cap l W w hv)
  obtain ⟨n, hn⟩ : ∃ n, l.length = n := ⟨_, rfl⟩
  have HN := Lib.hid hn
  rw [hok, hn] at A1
  have hlast : Res l W n noWy := by rw [← hn]; exact res_end
  rw [hn] at hv ho1 ⊢
  have HV := Lib.hid hv
  have HO := Lib.hid ho4
  have HLAST := Lib.hid hlast
  clear hn hv hok ho4 hlast
  obtain ⟨i0, hi, hz0, hz1, hz2⟩ := info_parts info43
  obtain ⟨n1, hn1⟩ : ∃ n1, n + 1 = n1 := ⟨_, rfl⟩
  have hn2 : (n : Int) + 1 = (n1 : Int) := by omega
  go_enter Try.func8, Try.ntmps8
  go_wp2_with (first
    | (go_at_call 6; refine (A1.out).mono ?_; rintro e w1 ⟨rfl, hg1⟩; have HG1 := Lib.hid hg1.out; clear hg1)
    | (at_make; refine wpList_make_full _ rfl _ _ 37 rfl w1.heap.size 43 i0 (.agg #[.int .i64 0, .int .i64 0, .int .i64 0]) 3 Try.underlying37 hi hz0 hz1 _ _ _ _ n1 rfl rfl rfl rfl (by rw [hz2]; omega) (by unfold maxLen; omega) (Nat.le_refl _) ?_))
  intro w2 hown hg2
  have HN1 := Lib.hid hn1
  have HT : Hid (Tab w2 w1.heap.size n fun _ => noWy) := Tab.made (hn1 ▸ hown)
  clear hn1 hn2
  have HG2 : Hid (w.grownBy w2 none) := grown_trans HG1.out hg2
  have hgt : w.heap.size ≤ w1.heap.size := HG1.out.size
  obtain ⟨gt, hgte⟩ : ∃ gt, w1.heap.size = gt := ⟨_, rfl⟩
  rw [hgte] at HT hgt
  clear hown hg2 hi hz0 hz1 hz2 HG1
  simp only [hgte]
  clear hgte
  go_wp2_with fail
  go_loopw [9] (fun p wr => ∃ (i : Nat) (f : Nat → Wy) (c : Int), i ≤ n ∧ p = .int .i64 c ∧ c = (i : Int) - 1 ∧ Hid (Tab wr gt n f) ∧ Hid (∀ k, i ≤ k → k ≤ n → Res l W k (f k)) ∧ Hid (∀ k, k < i → f k = noWy) ∧ Hid (w.grownBy wr none)) (fun p _ => (intOf p + 1).toNat)
  case atStart => exact ⟨n, _, _, Nat.le_refl _, rfl, rfl, HT, fun k h1 h2 => (show k = n by omega) ▸ HLAST.out, fun k _ => rfl, HG2⟩
  case round =>
    clear HT HG2 HLAST
    obtain ⟨i, f, ci, hin, rfl, hci, HT, HF, HZ, HG⟩ := hrel
    by_cases hi0 : 0 < i
    · obtain ⟨i, rfl⟩ : ∃ i', i = i' + 1 := ⟨i - 1, by omega⟩
      obtain rfl : ci = (i : Int) := by omega
      clear hci hi0
      have HG3 : Hid (w.grownBy (wr.alloc (.cells #[.int .i64 0, .int .i64 0] 39)) none) := grown_alloc HG.out _
      have HRW : Hid (Row2 (wr.alloc (.cells #[.int .i64 0, .int .i64 0] 39)) wr.heap.size 0 0) := heap_alloc_new _ _
      have HT3 : Hid (Tab (wr.alloc (.cells #[.int .i64 0, .int .i64 0] 39)) gt n f) := HT.out.grown (grown_alloc (grown_refl _ _) _)
      have hsz : w.heap.size ≤ wr.heap.size := HG.out.size
      have hgg : gt < wr.heap.size := HT.out.lt
      go_upto_region 9 with fail
      obtain ⟨g, hg⟩ : ∃ g, wr.heap.size = g := ⟨_, rfl⟩
      obtain ⟨wn, hwn⟩ : ∃ wn, wr.alloc (.cells #[.int .i64 0, .int .i64 0] 39) = wn := ⟨_, rfl⟩
      rw [hwn] at HG3 HT3
      rw [hwn, hg] at HRW
      rw [hg] at hsz hgg
      simp only [hg, hwn]
      clear hwn hg HT HG
      go_wp2_with fail
      go_loopw [11] (fun p wq => ∃ (j : Nat) (f' : Nat → Wy), i ≤ j ∧ j ≤ n ∧ p = .int .i64 j ∧ Hid (Row2 wq g (sumW l i j) (sumL l i j)) ∧ Hid (Tab wq gt n f') ∧ Hid (∀ k, k ≠ i → f' k = f k) ∧ Hid (Upto l W i j (f' i)) ∧ Hid (w.grownBy wq none)) (fun p _ => n - (intOf p).toNat)
      case atStart => exact ⟨i, f, Nat.le_refl _, by omega, rfl, by unfold Hid; rw [sumW_self, sumL_self]; exact HRW, HT3, fun k _ => rfl, by unfold Hid; rw [HZ.out i (by omega)]; exact upto_start, HG3⟩
      case round =>
        clear HRW HG3 HT3
        obtain ⟨j, f', hj1, hj2, rfl, HRW, HT, HSM, HU, HG⟩ := hrel
        by_cases hje : j < n
        · obtain ⟨b, hbk⟩ : ∃ b, l[j]? = some b := ⟨l[j]'(by rw [HN.out]; omega), List.getElem?_eq_getElem _⟩
          have hs1 := sumW_snoc l hbk hj1
          have hs2 := sumL_snoc l hbk hj1
          have hb0 := sum_bound (i := i) (j := j) HO.out hj1 (by rw [HN.out]; omega)
          have hsb := sum_bound (i := i) (j := j + 1) HO.out (by omega) (by rw [HN.out]; omega)
          have hbb := HO.out b (List.mem_of_getElem? hbk)
          have HC := Lib.hid (fun w' (hg : w.grownBy w' none) => bx_at HN.out HV.out hg hbk)
          obtain ⟨bk, off, rfl, hc⟩ := HC.out _ HG.out
          have HC2 : ∀ w', w.grownBy w' none → w'.rangeAt bk (off + j * 2) (bxCells b) := fun w' hg => by
            obtain ⟨bk', off', he, h⟩ := HC.out w' hg
            injection he with he; injection he with h1 h2; subst h1 h2
            exact h
          have HC2 := Lib.hid HC2
          clear HC
          obtain ⟨wd, gv⟩ := b
          unfold okB at hbb
          simp only at hs1 hs2 hbb
          have c0 : wr.cell? ⟨bk, off + j * 2, none⟩ = some (.int .i64 wd) := hc 0 _ rfl
          have c1 : wr.cell? ⟨bk, off + j * 2 + 1, none⟩ = some (.int .i64 gv) := hc 1 _ rfl
          obtain ⟨sw, hsw⟩ : ∃ s, sumW l i j = s := ⟨_, rfl⟩
          obtain ⟨sl, hsl⟩ : ∃ s, sumL l i j = s := ⟨_, rfl⟩
          obtain ⟨sw1, hsw1⟩ : ∃ s, sumW l i (j + 1) = s := ⟨_, rfl⟩
          obtain ⟨sl1, hsl1⟩ : ∃ s, sumL l i (j + 1) = s := ⟨_, rfl⟩
          have HLN : Hid (line l W i (j + 1) = lineC W sw1 sl1 (decide ((j : Int) + 1 = n))) := by
            unfold Hid line
            rw [hsw1, hsl1, HN.out]
            congr 1
            rw [Bool.eq_iff_iff]; simp; omega
          rw [hsw] at HRW hs1 hb0
          rw [hsl] at HRW hs2 hb0
          rw [hsw1] at hs1 hsb
          rw [hsl1] at hs2 hsb
          have HS1 := Lib.hid hs1
          have HS22 := Lib.hid hs2
          have HSW1 := Lib.hid hsw1
          have HSL1 := Lib.hid hsl1
          clear hs1 hs2 hc hbk hsw hsl hsw1 hsl1
          obtain ⟨y1, y2, y3, y4⟩ := hbb
          obtain ⟨z1, z2, z3⟩ := hb0
          obtain ⟨x1, x2, x3⟩ := hsb
          have x4 : sw1 ≤ 10240000 := by omega
          have z4 : sw ≤ 10240000 := by omega
          clear z3 x3
          have r0 : wr.cell? ⟨g, 0, none⟩ = some (.int .i64 sw) := cell_of HRW.out 0
          have f0 : wr.frozen? ⟨g, 0, none⟩ = false := free_of HRW.out 0
          go_upto_region 12 with fail
          go_region
          obtain ⟨w2, hw2⟩ : ∃ w2, (wr.setCell ⟨g, 0, none⟩ (.int .i64 (sw + wd))).drew = w2 := ⟨_, rfl⟩
          have HRW2 : Hid (Row2 w2 g (sw + wd) sl) := hw2 ▸ HRW.out.set0 _
          have HG2 : Hid (w.grownBy w2 none) := hw2 ▸ grown_drew (grown_set HG.out (.inr hsz) _)
          have HT2 : Hid (Tab w2 gt n f') := hw2 ▸ HT.out.keep (set_other (by show gt ≠ g; omega) _)
          rw [hw2]
          clear hw2 HRW HG HT c0 c1 r0 f0
          have c0 : w2.cell? ⟨bk, off + j * 2, none⟩ = some (.int .i64 wd) := HC2.out w2 HG2.out 0 _ rfl
          have c1 : w2.cell? ⟨bk, off + j * 2 + 1, none⟩ = some (.int .i64 gv) := HC2.out w2 HG2.out 1 _ rfl
          have r1 : w2.cell? ⟨g, 1, none⟩ = some (.int .i64 sl) := cell_of HRW2.out 1
          have f1 : w2.frozen? ⟨g, 1, none⟩ = false := free_of HRW2.out 1
          go_upto_region 13 with fail
          go_region
          obtain ⟨w3, hw3⟩ : ∃ w3, (w2.setCell ⟨g, 1, none⟩ (.int .i64 (sl + (wd - gv)))).drew = w3 := ⟨_, rfl⟩
          have HRW3 : Hid (Row2 w3 g sw1 sl1) := by
            unfold Hid
            rw [HS1.out, HS22.out]
            exact hw3 ▸ HRW2.out.set1 _
          have HG3 : Hid (w.grownBy w3 none) := hw3 ▸ grown_drew (grown_set HG2.out (.inr hsz) _)
          have HT3 : Hid (Tab w3 gt n f') := hw3 ▸ HT2.out.keep (set_other (by show gt ≠ g; omega) _)
          rw [hw3]
          clear hw3 HRW2 HG2 HT2 c0 c1 r1 f1 HS1 HS22 HC2
          have r0 : w3.cell? ⟨g, 0, none⟩ = some (.int .i64 sw1) := cell_of HRW3.out 0
          have r1 : w3.cell? ⟨g, 1, none⟩ = some (.int .i64 sl1) := cell_of HRW3.out 1
          obtain ⟨j1, hj3⟩ : ∃ j1, j + 1 = j1 := ⟨_, rfl⟩
          have hj4 : (j : Int) + 1 = (j1 : Int) := by omega
          rw [hj4] at HLN
          obtain ⟨bb, hbb⟩ : ∃ bb, decide ((j1 : Int) = n) = bb := ⟨_, rfl⟩
          have hbb2 : ((j1 : Int) == n) = bb := by rw [← hbb]; rfl
          have A2 := Lib.hid (cost_calls sw1 sl1 W bb w3 ⟨by omega, by omega⟩ ⟨by omega, by omega⟩ ⟨by omega, by omega⟩)
          rw [hbb] at HLN
          have HJ3 := Lib.hid hj3
          have hjn : j1 < n1 := by have := HN1.out; omega
          have hin1 : i < n1 := by have := HN1.out; omega
          clear hbb hj3
          have hlb := fun c => line_bound (c := c) (i := i) (j := j + 1) HO.out (by rw [HN.out]; exact ho1) ⟨ho2, ho3⟩ (by omega) (by rw [HN.out]; omega)
          cases hl : lineC W sw1 sl1 bb with
          | none =>
            have HRES : Hid (Res l W i (f' i)) := by
              refine upto_break HU.out (by rw [HN.out]; omega) fun e he1 he2 => ?_
              have hW : W < sl1 := by
                unfold lineC at hl
                split at hl
                · assumption
                · split at hl
                  · cases hl
                  · split at hl <;> cases hl
              have hm := sumL_mono (i := i) (j := j + 1) (k := e) HO.out (by omega) (by omega) he2
              rw [HSL1.out] at hm
              unfold line lineC
              rw [if_pos (by omega)]
            rw [hl, show costV none = .tuple #[.int .i64 0, .bool false] from rfl] at A2
            clear HLN hlb hl HU
            go_wp2_with (go_at_call 15; refine (A2.out).mono ?_; rintro e w4 ⟨rfl, hg4⟩; have HG4 := Lib.hid (grown_trans HG3.out hg4.out); have HT4 := Lib.hid (HT3.out.grown hg4.out); clear hg4)
            go_roundw
            case rel => exact ⟨i, f', (i : Int) - 1, by omega, rfl, rfl, HT4, fun k h1 h2 => by
                          by_cases hk : k = i
                          · subst hk; exact HRES.out
                          · rw [HSM.out k hk]; exact HF.out k (by omega) h2, fun k h1 => by rw [HSM.out k (by omega)]; exact HZ.out k (by omega), HG4⟩
            case measure => simp [intOf]
          | some c0 =>
            rw [hl] at HLN
            obtain ⟨y5, y6⟩ := hlb c0 HLN.out
            rw [hl, show costV (some c0) = .tuple #[.int .i64 c0, .bool true] from rfl] at A2
            have HRS : Hid (Res l W (j + 1) (f' (j + 1))) := by unfold Hid; rw [HSM.out (j + 1) (by omega)]; exact HF.out (j + 1) (by omega) (by omega)
            obtain ⟨w4c, w4l, w4s, w4a, w4b, w4d⟩ := res_bound HO.out (by rw [HN.out]; exact ho1) ⟨ho2, ho3⟩ (by rw [HN.out]; omega) HRS.out
            have hcells := fun w4 (h : Tab w4 gt n f') => (h.at (i := j1) (by rw [← HJ3.out]; omega)).1
            obtain ⟨rs, hrs⟩ : ∃ rs, f' (j + 1) = rs := ⟨_, rfl⟩
            rw [← HJ3.out, hrs] at hcells
            rw [HJ3.out] at hcells
            rw [hrs] at HRS w4c w4l w4s w4a w4b w4d
            obtain ⟨rc, rl, re⟩ := rs
            simp only at hcells w4c w4l w4s w4a w4b w4d
            have HCL := Lib.hid hcells
            clear hlb hl hcells hrs r0 r1
            have r0 : w3.cell? ⟨g, 0, none⟩ = some (.int .i64 sw1) := cell_of HRW3.out 0
            have r1 : w3.cell? ⟨g, 1, none⟩ = some (.int .i64 sl1) := cell_of HRW3.out 1
            go_upto_region 16 with (go_at_call 15; refine (A2.out).mono ?_; rintro e w4 ⟨rfl, hg4⟩; have HG4 := Lib.hid (grown_trans HG3.out hg4.out); have HT4 := Lib.hid (HT3.out.grown hg4.out); have HRW4 : Hid (Row2 w4 g sw1 sl1) := (show w4.heap[g]? = _ from (hg4.out.block g (lt_of HRW3.out) (by simp)).trans HRW3.out); have hw34 := hg4.out.size; clear hg4)
            obtain ⟨⟨d0, d1, d2⟩⟩ : Nonempty _ := ⟨HCL.out w4 HT4.out⟩
            clear r0 r1 HT3 HRW3 HG3 A2
            go_upto_region 17 with fail
            have HG5 : Hid (w.grownBy (w4.alloc (.cells #[.int .i64 rc, .int .i64 rl, .int .i64 re] 43)) none) := grown_alloc HG4.out _
            have HT5 : Hid (Tab (w4.alloc (.cells #[.int .i64 rc, .int .i64 rl, .int .i64 re] 43)) gt n f') := HT4.out.grown (grown_alloc (grown_refl _ _) _)
            have HRW5 : Hid (Row2 (w4.alloc (.cells #[.int .i64 rc, .int .i64 rl, .int .i64 re] 43)) g sw1 sl1) := (heap_alloc_old _ _ (lt_of HRW4.out)).trans HRW4.out
            obtain ⟨g2, hg2⟩ : ∃ g2, w4.heap.size = g2 := ⟨_, rfl⟩
            have HR2 : Hid ((w4.alloc (.cells #[.int .i64 rc, .int .i64 rl, .int .i64 re] 43)).heap[g2]? = some (.cells #[.int .i64 rc, .int .i64 rl, .int .i64 re] 43 (0, 0))) := hg2 ▸ heap_alloc_new _ _
            obtain ⟨w5, hw5⟩ : ∃ w5, w4.alloc (.cells #[.int .i64 rc, .int .i64 rl, .int .i64 re] 43) = w5 := ⟨_, rfl⟩
            rw [hw5] at HG5 HT5 HRW5 HR2
            simp only [hg2, hw5]
            have e0 : w5.cell? ⟨g2, 0, none⟩ = some (.int .i64 rc) := cell_of HR2.out 0
            have e1 : w5.cell? ⟨g2, 1, none⟩ = some (.int .i64 rl) := cell_of HR2.out 1
            have e2 : w5.cell? ⟨g2, 2, none⟩ = some (.int .i64 re) := cell_of HR2.out 2
            clear hg2 hw5 HR2 d0 d1 d2 HG4 HT4 HRW4 hw34
            by_cases hskip : j1 < n ∧ re = 0
            · obtain ⟨hs1, rfl⟩ := hskip
              have hs2 : (j1 : Int) < n := by omega
              have HU6 : Hid (Upto l W i (j + 1) (f' i)) := upto_skip HU.out HRS.out (by rw [HN.out, HJ3.out]; exact hs1) rfl
              clear HU HRS HLN e0 e1
              rw [← HSW1.out, ← HSL1.out] at HRW5
              go_wp2_with fail
              go_roundw
              case rel => exact ⟨j + 1, f', by omega, by omega, by rw [← HJ3.out], HRW5, HT5, HSM, HU6, HG5⟩
              case measure => have := HJ3.out; simp [intOf]; omega
            · have HU6 : Hid (Upto l W i (j + 1) (if betterW ⟨c0 + rc, 1 + rl, (j1 : Int)⟩ (f' i) then ⟨c0 + rc, 1 + rl, (j1 : Int)⟩ else f' i)) := by
                have h1 := upto_more HU.out hj1 (by rw [HN.out]; omega) HLN.out HRS.out (by rw [HN.out, HJ3.out]; exact hskip)
                rw [show ((j : Int) + 1) = (j1 : Int) from hj4] at h1
                exact h1
              have hcs : ¬ (j1 : Int) < n ∨ (j1 : Int) < n ∧ (re == 0) = false := by
                by_cases h1 : j1 < n
                · right; exact ⟨by omega, by simpa using fun h2 => hskip ⟨h1, h2⟩⟩
                · left; omega
              clear hskip HU HRS HLN
              have HJW : Hid (n - j1 < n - j) := by unfold Hid; have := HJ3.out; omega
              go_cut [11, 92] from 35 to 112 (fun p c wx => p = .int .i64 j ∧ c = .bool false ∧ wx = w5)
              case first =>
                clear HU6 HT5 HRW5 HG5 HSM HF HZ HJ3 HJW HV HO A1 HN HN1 HSW1 HSL1
                rcases hcs with hcs | ⟨hcs, hcs2⟩
                · go_wp2_with fail
                  go_meet
                  exact ⟨rfl, rfl, rfl⟩
                · go_wp2_with fail
                  go_meet
                  exact ⟨rfl, rfl, rfl⟩
              case rest =>
                obtain ⟨rfl, rfl, hwx⟩ := hcut
                rw [hwx]
                clear hcs e2 hwx
                have HG6 : Hid (w.grownBy (w5.alloc (.cells #[.int .i64 (c0 + rc), .int .i64 (1 + rl), .int .i64 j1] 43)) none) := grown_alloc HG5.out _
                have HT6 : Hid (Tab (w5.alloc (.cells #[.int .i64 (c0 + rc), .int .i64 (1 + rl), .int .i64 j1] 43)) gt n f') := HT5.out.grown (grown_alloc (grown_refl _ _) _)
                have HRW6 : Hid (Row2 (w5.alloc (.cells #[.int .i64 (c0 + rc), .int .i64 (1 + rl), .int .i64 j1] 43)) g sw1 sl1) := (heap_alloc_old _ _ (lt_of HRW5.out)).trans HRW5.out
                obtain ⟨g3, hg3⟩ : ∃ g3, w5.heap.size = g3 := ⟨_, rfl⟩
                have HR3 : Hid ((w5.alloc (.cells #[.int .i64 (c0 + rc), .int .i64 (1 + rl), .int .i64 j1] 43)).heap[g3]? = some (.cells #[.int .i64 (c0 + rc), .int .i64 (1 + rl), .int .i64 j1] 43 (0, 0))) := hg3 ▸ heap_alloc_new _ _
                go_upto_region 19 with fail
                obtain ⟨w6, hw6⟩ : ∃ w6, w5.alloc (.cells #[.int .i64 (c0 + rc), .int .i64 (1 + rl), .int .i64 j1] 43) = w6 := ⟨_, rfl⟩
                rw [hw6] at HG6 HT6 HRW6 HR3
                simp only [hw6]
                clear hg3 hw6 e0 e1 HT5 HG5 HRW5
                obtain ⟨cc, hcc⟩ : ∃ c, c0 + rc = c := ⟨_, rfl⟩
                obtain ⟨ll, hll⟩ : ∃ c, 1 + rl = c := ⟨_, rfl⟩
                rw [hcc, hll] at HU6 HR3
                simp only [hcc, hll]
                clear hcc hll
                obtain ⟨ow, how⟩ : ∃ o, f' i = o := ⟨_, rfl⟩
                have hb6 := better_calls ⟨cc, ll, (j1 : Int)⟩ ow
                rw [how] at HU6
                obtain ⟨bt, hbt⟩ : ∃ b, betterW ⟨cc, ll, (j1 : Int)⟩ ow = b := ⟨_, rfl⟩
                rw [hbt] at HU6 hb6
                have ht6 := HT6.out.at (i := i) (by omega)
                rw [how] at ht6
                have HOW := Lib.hid how
                obtain ⟨oc, ol, oe⟩ := ow
                obtain ⟨⟨d0, d1, d2⟩, hfr⟩ := ht6
                simp only at d0 d1 d2
                have HB6 := Lib.hid hb6
                have e0 : w6.cell? ⟨g3, 0, none⟩ = some (.int .i64 cc) := cell_of HR3.out 0
                have e1 : w6.cell? ⟨g3, 1, none⟩ = some (.int .i64 ll) := cell_of HR3.out 1
                have e2 : w6.cell? ⟨g3, 2, none⟩ = some (.int .i64 (j1 : Int)) := cell_of HR3.out 2
                clear how hbt hb6 hfr
                go_cut [11, 108] from 35 to 112 (fun p c wx => p = .int .i64 j ∧ c = .bool bt ∧ Hid (w6.grownBy wx none))
                case first =>
                  clear HU6 HT6 HRW6 HG6 HSM HF HZ HJ3 HJW HV HO A1 HN HN1 HSW1 HSL1 HOW HR3
                  go_region_with (go_at_call 16; refine (HB6.out _).mono ?_; rintro e w7 ⟨rfl, hg7⟩)
                  all_goals
                    go_wp2_with fail
                    go_meet
                    exact ⟨rfl, rfl, grown_trans (grown_drew (grown_refl _ _)) hg7.out⟩
                case rest =>
                  obtain ⟨rfl, rfl, HG67⟩ := hcut
                  have HG7 : Hid (w.grownBy wc none) := grown_trans HG6.out HG67.out
                  have HT7 : Hid (Tab wc gt n f') := HT6.out.grown HG67.out
                  have HRW7 : Hid (Row2 wc g (sumW l i (j + 1)) (sumL l i (j + 1))) := by
                    unfold Hid
                    rw [HSW1.out, HSL1.out]
                    exact (HG67.out.block g (lt_of HRW6.out) (by simp)).trans HRW6.out
                  have HR7 : Hid (wc.heap[g3]? = some (.cells #[.int .i64 cc, .int .i64 ll, .int .i64 j1] 43 (0, 0))) := (HG67.out.block g3 (lt_of HR3.out) (by simp)).trans HR3.out
                  have hjj : ((j + 1 : Nat) : Int) = (j1 : Int) := by rw [HJ3.out]
                  clear HG6 HT6 HRW6 HR3 HB6 HG67 d0 d1 d2 e0 e1 e2 HSW1 HSL1
                  cases bt with
                  | false =>
                    have HU7 : Hid (Upto l W i (j + 1) (f' i)) := by
                      have h1 := HU6.out
                      rw [if_neg (by simp)] at h1
                      rw [HOW.out]; exact h1
                    clear HU6 HR7
                    go_wp2_with fail
                    go_roundw
                    case rel => exact ⟨j + 1, f', by omega, by omega, by rw [hjj], HRW7, HT7, HSM, HU7, HG7⟩
                    case measure => have := HJW.out; simpa [intOf] using this
                  | true =>
                    have HU7 : Hid (Upto l W i (j + 1) ((upd f' i ⟨cc, ll, (j1 : Int)⟩) i)) := by
                      have h1 := HU6.out
                      rw [if_pos rfl] at h1
                      unfold Hid upd
                      rw [if_pos rfl]; exact h1
                    have HT8 := Lib.hid (HT7.out.set (i := i) (by omega) ⟨cc, ll, (j1 : Int)⟩)
                    have HSM8 : Hid (∀ k, k ≠ i → (upd f' i ⟨cc, ll, (j1 : Int)⟩) k = f k) := fun k hk => by
                      unfold upd; rw [if_neg hk]; exact HSM.out k hk
                    have HG8 : Hid (w.grownBy (((wc.setCell ⟨gt, i * 3, none⟩ (.int .i64 cc)).setCell ⟨gt, i * 3 + 1, none⟩ (.int .i64 ll)).setCell ⟨gt, i * 3 + 2, none⟩ (.int .i64 j1)) none) :=
                      grown_set (grown_set (grown_set HG7.out (.inr hgt) _) (.inr hgt) _) (.inr hgt) _
                    have HRW8 : Hid (Row2 (((wc.setCell ⟨gt, i * 3, none⟩ (.int .i64 cc)).setCell ⟨gt, i * 3 + 1, none⟩ (.int .i64 ll)).setCell ⟨gt, i * 3 + 2, none⟩ (.int .i64 j1)) g (sumW l i (j + 1)) (sumL l i (j + 1))) := by
                      unfold Hid Row2
                      rw [set_other (by show g ≠ gt; omega), set_other (by show g ≠ gt; omega), set_other (by show g ≠ gt; omega)]
                      exact HRW7.out
                    obtain ⟨⟨d0, d1, d2⟩, hfr⟩ := HT7.out.at (i := i) (by omega)
                    have e0 : wc.cell? ⟨g3, 0, none⟩ = some (.int .i64 cc) := cell_of HR7.out 0
                    have e1 : wc.cell? ⟨g3, 1, none⟩ = some (.int .i64 ll) := cell_of HR7.out 1
                    have e2 : wc.cell? ⟨g3, 2, none⟩ = some (.int .i64 (j1 : Int)) := cell_of HR7.out 2
                    have z0 := hfr (i * 3)
                    have z1 := hfr (i * 3 + 1)
                    have z2 := hfr (i * 3 + 2)
                    clear HU6 HR7 hfr HT7 HRW7 HG7
                    go_upto_region 11 with fail
                    obtain ⟨w8, hw8⟩ : ∃ w8, (((wc.setCell ⟨gt, i * 3, none⟩ (.int .i64 cc)).setCell ⟨gt, i * 3 + 1, none⟩ (.int .i64 ll)).setCell ⟨gt, i * 3 + 2, none⟩ (.int .i64 j1)) = w8 := ⟨_, rfl⟩
                    simp only [hw8] at HT8
                    rw [hw8] at HRW8 HG8 ⊢
                    clear d0 d1 d2 e0 e1 e2 z0 z1 z2 hw8
                    go_wp2_with fail
                    go_roundw
                    case rel => exact ⟨j + 1, _, by omega, by omega, by rw [hjj], HRW8, HT8, HSM8, HU7, HG8⟩
                    case measure => have := HJW.out; simpa [intOf] using this
        · obtain rfl : j = n := by omega
          have HRES : Hid (Res l W i (f' i)) := by
            have h1 := HU.out
            unfold Hid
            rw [← HN.out] at h1 hin
            exact upto_end h1 (by omega)
          clear HRW HU
          go_wp2_with fail
          go_roundw
          case rel => exact ⟨i, f', (i : Int) - 1, by omega, rfl, rfl, HT, fun k h1 h2 => by
                        by_cases hk : k = i
                        · subst hk; exact HRES.out
                        · rw [HSM.out k hk]; exact HF.out k (by omega) h2, fun k h1 => by rw [HSM.out k (by omega)]; exact HZ.out k (by omega), HG⟩
          case measure => simp [intOf]
    · obtain rfl : i = 0 := by omega
      obtain rfl : ci = -1 := by omega
      clear hci hi0 HZ
      have HRB := fun k a (h : Res l W k a) (hk : k ≤ n) => res_bound (k := k) HO.out (by rw [HN.out]; exact ho1) ⟨ho2, ho3⟩ (by rw [HN.out]; exact hk) h
      have hn01 : 0 < n1 := by have := HN1.out; omega
      rcases HF.out 0 (Nat.le_refl _) (Nat.zero_le _) with ⟨h0, hno⟩ | ⟨c, R, hbest, h0⟩
      · rw [HN.out] at hno
        have hnpos : (0 : Int) < n := by
          rcases Nat.eq_zero_or_pos n with h | h
          · have := hno []
            rw [h] at this
            unfold pathC at this
            rw [if_pos rfl] at this
            cases this
          · omega
        have HNO := Lib.hid hno
        obtain ⟨⟨d0, d1, d2⟩, hfr⟩ := HT.out.at (i := 0) (Nat.zero_le _)
        rw [h0] at d0 d1 d2
        simp only [noWy, Nat.zero_mul, Nat.zero_add] at d0 d1 d2
        clear hno hfr h0 HRB
        go_wp2_with fail
        go_ret3
        exact ⟨HG, .inl ⟨HNO.out, rfl⟩⟩
      · have HBEST := Lib.hid hbest
        obtain ⟨pb1, pb2, pb3⟩ := path_bound HO.out (by rw [HN.out]; exact ho1) ⟨ho2, ho3⟩ (Nat.le_refl _) hbest.1
        have hRl : R.length ≤ 1024 := by rw [HN.out] at pb3; omega
        have HT0 := HT
        obtain ⟨⟨d0, d1, d2⟩, hfr⟩ := HT.out.at (i := 0) (Nat.zero_le _)
        rw [h0] at d0 d2
        simp only [enc, Nat.zero_mul, Nat.zero_add] at d0 d2
        have H0 := Lib.hid h0
        have hstop : ¬ (0 : Int) < n ∨ ((0 : Int) < n ∧ ((R.headD 0 : Int) == 0) = false) := by
          cases R with
          | nil =>
            left
            have := (path_nil hbest.1).1
            rw [HN.out] at this
            omega
          | cons e s =>
            obtain ⟨h1, h2, _⟩ := pathC_cons hbest.1
            rw [HN.out] at h2
            right
            refine ⟨by omega, ?_⟩
            simp only [List.headD_cons, beq_eq_false_iff_ne, ne_eq]
            omega
        clear hbest pb1 pb2 pb3 hfr h0 HRB
        obtain ⟨hd, hhd⟩ : ∃ h, (R.headD 0 : Int) = h := ⟨_, rfl⟩
        rw [hhd] at d2 hstop
        clear hhd
        go_upto_region 21 with fail
        go_cut [122] from 113 (fun c wx => c = .bool false ∧ wx = wr)
        case first =>
          clear HF HT HG H0 HBEST HT0 HV HO HN A1
          rcases hstop with h | ⟨h1, h2⟩
          · go_wp2_with fail
            go_meet
            exact ⟨rfl, rfl⟩
          · go_wp2_with fail
            go_meet
            exact ⟨rfl, rfl⟩
        case rest =>
          obtain ⟨rfl, hwx⟩ := hcut
          rw [hwx]
          clear hwx hstop d0 d1 d2 HT0
          obtain ⟨wE, hwE⟩ : ∃ wE, wE = wr := ⟨wr, rfl⟩
          rw [← hwE] at HT HG ⊢
          clear hwE
          go_wp2_with fail
          go_loopw [4, 16] (fun v p wq => ∃ (a : Nat) (acc r : List Nat) (d : Int), a ≤ n ∧ p = .int .i64 a ∧ acc.length ≤ 1024 ∧ Hid (R = acc ++ r) ∧ Hid (Best l W a l.length d r) ∧ Hid (wq.ownsRow wE.heap.size 3 1 v acc.length (acc.map intV)) ∧ Hid (Gr wE.heap.size [3] wE wq)) (fun _ p _ => n - (intOf p).toNat)
          case atStart => exact ⟨0, [], R, c, Nat.zero_le _, rfl, by simp, rfl, HBEST, ⟨rfl, .inl ⟨rfl, rfl⟩⟩, Gr.refl _ _ _⟩
          case round =>
            obtain ⟨a, acc, r, d, han, rfl, hacc, HRR, HBR, HOWN, HGR⟩ := hrel
            by_cases hlt : a < n
            · have han1 : a < n1 := by have := HN1.out; omega
              obtain ⟨e, s, rfl⟩ : ∃ e s, r = e :: s := by
                cases r with
                | nil =>
                  have := (path_nil HBR.out.1).1
                  rw [HN.out] at this
                  omega
                | cons e s => exact ⟨e, s, rfl⟩
              obtain ⟨hae, hen, c0, d', hl0, hd', hbt⟩ := best_tail HBR.out
              rw [HN.out] at hen
              have hfa : (f a).stop = (e : Int) := by
                rcases HF.out a (Nat.zero_le _) (by omega) with ⟨_, hno⟩ | ⟨c', r', hb', hf'⟩
                · have := HBR.out.1; rw [hno] at this; cases this
                · obtain ⟨_, rfl⟩ := hb'.unique HBR.out
                  rw [hf']
                  rfl
              have HBT := Lib.hid hbt
              have HFA := Lib.hid hfa
              have hlen : (acc ++ [e]).length ≤ 1024 := by
                have := HRR.out
                rw [this] at hRl
                simp only [List.length_append, List.length_cons, List.length_nil] at hRl ⊢
                omega
              have HRR2 : Hid (R = (acc ++ [e]) ++ s) := by unfold Hid; rw [HRR.out]; simp
              have HTq := HT.out.keep (HGR.out.block gt HT.out.lt (.inl HT.out.lt))
              obtain ⟨⟨d0, d1, d2⟩, hfr⟩ := HTq.at (i := a) (by omega)
              rw [hfa] at d2
              have HBS : Hid (wE.heap.size ≤ wr.heap.size) := HGR.out.size
              clear hfa hbt hl0 hd' hfr d0 d1 HBR HRR HTq
              go_upto_region 25 with (at_builtin; refine append_int rfl _ _ rfl wE.heap.size u4 acc.length (acc.map intV) rfl _ HOWN.out rfl (by omega) HBS.out ?_; intro v2 w9 HO9 HG9)
              have HGR9 : Hid (Gr wE.heap.size [3] wE w9) := HGR.out.trans HG9.out
              obtain ⟨⟨d0, d1, d3⟩, hfr⟩ := (HT.out.keep (HGR9.out.block gt HT.out.lt (.inl HT.out.lt))).at (i := a) (by omega)
              rw [HFA.out] at d3
              have HO10 : Hid (w9.ownsRow wE.heap.size 3 1 v2 (acc ++ [e]).length ((acc ++ [e]).map intV)) := by
                unfold Hid
                rw [List.map_append, List.length_append]
                exact HO9.out
              clear d0 d1 d2 hfr HO9 HG9 HOWN HGR
              go_wp2_with fail
              go_roundw
              case rel => exact ⟨e, acc ++ [e], s, d', hen, rfl, hlen, HRR2, HBT, HO10, HGR9⟩
              case measure => simp [intOf]; omega
            · obtain rfl : a = n := by omega
              have hr : r = [] := by
                cases r with
                | nil => rfl
                | cons e s =>
                  obtain ⟨h1, h2, _⟩ := pathC_cons HBR.out.1
                  rw [HN.out] at h2
                  omega
              subst hr
              have hRa : R = acc := by have := HRR.out; rw [List.append_nil] at this; exact this
              have HEND : Hid (Best l W 0 a c acc ∧ Ils wr u4 (acc.map fun n : Nat => (n : Int))) := by
                refine ⟨?_, owns_sl HOWN.out (by simp) fun i u x hu hx => ?_⟩
                · have := HBEST.out
                  rw [hRa, HN.out] at this
                  exact this
                · rw [List.getElem?_map] at hu hx
                  cases h : acc[i]? with
                  | none => rw [h] at hu; cases hu
                  | some y =>
                    rw [h] at hu hx
                    simp only [Option.map_some, Option.some.injEq] at hu hx
                    subst hu hx
                    rfl
              have HGF : Hid (w.grownBy wr none) := grown_trans HG.out HGR.out.none
              obtain ⟨⟨d0, d1, d2⟩, hfr⟩ := (HT.out.keep (HGR.out.block gt HT.out.lt (.inl HT.out.lt))).at (i := 0) (Nat.zero_le _)
              rw [H0.out] at d0
              simp only [enc, Nat.zero_mul] at d0
              clear d1 d2 hfr hRa HRR HBR HOWN HGR HF HT HG
              go_upto_region 27 with fail
              go_region
              go_wp2_with fail
              go_ret3
              exact ⟨grown_drew HGF.out, .inr ⟨u4, c, acc, HEND.out.1, HEND.out.2.grown (grown_drew (grown_refl _ _)), rfl⟩⟩

theorem break_calls (ao : Option Addr) (cap : Nat) (l : List Bx) (W : Int) (w : World) (hv : Bxs w (.slice ao l.length cap) l) : Calls Try.prog 8 #[.slice ao l.length cap, .int .i64 W] w fun e w' => BreakPost l W w e w' := by
  by_cases hok : wrongS l W = 0
  · refine (break_good ao cap l W w hv hok).mono ?_
    rintro e w' ⟨hg, h | h⟩
    · exact ⟨hg, .inr (.inl ⟨hok, h⟩)⟩
    · exact ⟨hg, .inr (.inr ⟨hok, h⟩)⟩
  · have A1 := Lib.hid (wrong_calls ao cap l W w hv)
    suffices h : Calls Try.prog 8 #[.slice ao l.length cap, .int .i64 W] w fun e w' => e = .returned (.tuple #[.slice none 0 0, .int .i64 0, .int .i64 (wrongS l W)]) ∧ Hid (w.grownBy w' none) from
      h.mono fun e w' ⟨h1, h2⟩ => ⟨h2, .inl ⟨hok, h1⟩⟩
    obtain ⟨r, hr⟩ : ∃ r, wrongS l W = r := ⟨_, rfl⟩
    rw [hr] at A1 hok ⊢
    have h2 : (r != 0) = true := by simpa using hok
    obtain ⟨n, hn⟩ : ∃ n, l.length = n := ⟨_, rfl⟩
    rw [hn] at A1 ⊢
    clear hr hv hn
    go_enter Try.func8, Try.ntmps8
    go_wp2_with (go_at_call 6; refine (A1.out).mono ?_; rintro e w1 ⟨rfl, hg1⟩; have HG1 := Lib.hid hg1.out; clear hg1)
    go_ret3
    exact ⟨rfl, HG1⟩

end Go.Proofs.Ytlinbocnhmkoeaa.SBreak
