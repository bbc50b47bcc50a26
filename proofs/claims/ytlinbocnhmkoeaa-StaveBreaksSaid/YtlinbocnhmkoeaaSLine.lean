/- The reference's Line and Cost. -/
import Derived.Test.YtlinbocnhmkoeaaSBetter
import Derived.Test.YtlinbocnhmkoeaaSWrong
namespace Go.Proofs.Ytlinbocnhmkoeaa.SLine
open Go Go.RowKit Go.Proofs.Ytlinbocnhmkoeaa.SMod Go.Proofs.Ytlinbocnhmkoeaa.SBest Go.Proofs.Ytlinbocnhmkoeaa.SCost Go.Proofs.Ytlinbocnhmkoeaa.SWrong Go.Proofs.Ytlinbocnhmkoeaa.SSum Go.Proofs.Ytlinbocnhmkoeaa.SLaw Go.Proofs.Ytlinbocnhmkoeaa.Opn Go.Proofs.Ytlinbocnhmkoeaa.Hp Go.Proofs.Ytlinbocnhmkoeaa.Rd
set_option linter.unusedVariables false

set_option maxHeartbeats 1000000 in
set_option maxRecDepth 100000 in
theorem ref_line (ao : Option Addr) (cap : Nat) (l : List Bx) (W : Int) (i j : Nat) (w : World) (hv : Bxs w (.slice ao l.length cap) l) (hcap : l.length ≤ cap) (ho : ∀ b ∈ l, okB b) (hl : l.length ≤ 1024) (hW : 1 ≤ W ∧ W ≤ 10000) (hij : i < j) (hj : j ≤ l.length) :
    Calls Try.prog 17 #[.slice ao l.length cap, .int .i64 W, .int .i64 i, .int .i64 j] w fun e w' => e = .returned (costV (line l W i j)) ∧ Hid (w.grownBy w' none) := by
  have hsb := fun k (h1 : i ≤ k) (h2 : k ≤ l.length) => sum_bound (i := i) (j := k) ho h1 h2
  have HSB := Lib.hid hsb
  have HO := Lib.hid ho
  have HG0 : Hid (w.grownBy w none) := grown_refl _ _
  have hline : line l W i j = lineC W (sumW l i j) (sumL l i j) (decide ((j : Int) = l.length)) := by
    unfold line
    congr 1
    rw [Bool.eq_iff_iff]; simp; omega
  obtain ⟨n, hn⟩ : ∃ n, l.length = n := ⟨_, rfl⟩
  have HN := Lib.hid hn
  rw [hn] at hv hcap hl hj hline ⊢
  have hadr : ∃ bk off, ao = some ⟨bk, off, none⟩ := by
    rcases hv with ⟨bk, off, cap', hh, _⟩ | ⟨_, _, hh, rfl⟩
    · simp only [Value.slice.injEq] at hh
      exact ⟨bk, off, hh.1⟩
    · simp at hn; omega
  have HV := Lib.hid hv
  obtain ⟨bk, off, rfl⟩ := hadr
  obtain ⟨o, hoo⟩ : ∃ o, line l W i j = o := ⟨_, rfl⟩
  have HLN : Hid (o = lineC W (sumW l i j) (sumL l i j) (decide ((j : Int) = n))) := by unfold Hid; rw [← hoo]; exact hline
  rw [hoo]
  clear hv hn hline hsb ho hoo
  obtain ⟨W0, W1⟩ := hW
  have hic : i < cap := by omega
  have hij2 : (i : Int) ≤ j := by omega
  go_enter Try.func17, Try.ntmps17
  go_wp2_with fail
  obtain ⟨m, hm⟩ : ∃ m, j - i = m := ⟨_, rfl⟩
  have HM := Lib.hid (show i + m = j by omega)
  simp only [hm]
  clear hm
  go_loopw [10, 11, 19] (fun p q x wr => ∃ k : Nat, k ≤ m ∧ x = .int .i64 k ∧ p = .int .i64 (sumW l i (i + k)) ∧ q = .int .i64 (sumL l i (i + k)) ∧ Hid (w.grownBy wr none)) (fun _ _ x _ => m - (intOf x).toNat)
  case atStart => exact ⟨0, Nat.zero_le _, rfl, by rw [Nat.add_zero, sumW_self], by rw [Nat.add_zero, sumL_self], HG0⟩
  case round =>
    obtain ⟨k, hk, rfl, rfl, rfl, HG⟩ := hrel
    by_cases hlt : k < m
    · obtain ⟨b, hbk⟩ : ∃ b, l[i + k]? = some b := ⟨l[i + k]'(by rw [HN.out]; have := HM.out; omega), List.getElem?_eq_getElem _⟩
      have hs1 := sumW_snoc l hbk (Nat.le_add_right _ _)
      have hs2 := sumL_snoc l hbk (Nat.le_add_right _ _)
      have hbb := HO.out b (List.mem_of_getElem? hbk)
      obtain ⟨z1, z2, z3⟩ := HSB.out (i + k) (by omega) (by rw [HN.out]; have := HM.out; omega)
      obtain ⟨bk', off', he, hc⟩ := bx_at HN.out HV.out HG.out hbk
      injection he with he; injection he with u1 u2; subst u1 u2
      obtain ⟨wd, gv⟩ := b
      unfold okB at hbb
      simp only at hs1 hs2 hbb
      obtain ⟨y1, y2, y3, y4⟩ := hbb
      have c0 : wr.cell? ⟨bk, off + i * 2 + k * 2, none⟩ = some (.int .i64 wd) := by have := hc 0 _ rfl; rw [← this]; congr 2; omega
      have c1 : wr.cell? ⟨bk, off + i * 2 + k * 2 + 1, none⟩ = some (.int .i64 gv) := by have := hc 1 _ rfl; rw [← this]; congr 2; omega
      obtain ⟨sw, hsw⟩ : ∃ s, sumW l i (i + k) = s := ⟨_, rfl⟩
      obtain ⟨sl, hsl⟩ : ∃ s, sumL l i (i + k) = s := ⟨_, rfl⟩
      rw [hsw] at hs1 z2 z3
      rw [hsl] at hs2 z1 z2
      have z4 : sw ≤ 10240000 := by have := HM.out; omega
      have hkb : k < 1024 := by have := HM.out; omega
      have HS1 := Lib.hid hs1
      have HS2 := Lib.hid hs2
      have HGA : Hid (w.grownBy (wr.alloc (.cells #[.int .i64 wd, .int .i64 gv] 35)).drew none) := grown_drew (grown_alloc HG.out _)
      simp only [hsw, hsl]
      clear hs1 hs2 hc hbk hsw hsl z3
      go_upto_region 5 with fail
      obtain ⟨g, hg⟩ : ∃ g, wr.heap.size = g := ⟨_, rfl⟩
      obtain ⟨wn, hwn⟩ : ∃ wn, wr.alloc (.cells #[.int .i64 wd, .int .i64 gv] 35) = wn := ⟨_, rfl⟩
      have hrow : wn.heap[g]? = some (.cells #[.int .i64 wd, .int .i64 gv] 35 (0, 0)) := by
        rw [← hwn, ← hg]; exact heap_alloc_new _ _
      have d0 : wn.cell? ⟨g, 0, none⟩ = some (.int .i64 wd) := cell_of hrow 0
      have d1 : wn.cell? ⟨g, 1, none⟩ = some (.int .i64 gv) := cell_of hrow 1
      rw [hwn] at HGA
      simp only [hg, hwn]
      clear hrow hwn hg c0 c1
      go_region
      go_wp2_with fail
      go_roundw
      case rel => exact ⟨k + 1, by omega, by go_num, by rw [← Nat.add_assoc, HS1.out], by rw [← Nat.add_assoc, HS2.out]; congr 1; omega, HGA⟩
      case measure => simp [intOf]; omega
    · obtain rfl : k = m := by omega
      obtain ⟨z1, z2, z3⟩ := HSB.out (i + k) (by omega) (by rw [HN.out]; have := HM.out; omega)
      rw [HM.out] at z1 z2 z3
      simp only [HM.out]
      obtain ⟨sw, hsw⟩ : ∃ s, sumW l i j = s := ⟨_, rfl⟩
      obtain ⟨sl, hsl⟩ : ∃ s, sumL l i j = s := ⟨_, rfl⟩
      rw [hsw] at z2 z3
      rw [hsl] at z1 z2
      have z4 : sw ≤ 10240000 := by omega
      obtain ⟨bb, hbb⟩ : ∃ bb, decide ((j : Int) = n) = bb := ⟨_, rfl⟩
      have hbb2 : ((j : Int) == n) = bb := by rw [← hbb]; rfl
      rw [hsw, hsl, hbb] at HLN
      simp only [hsw, hsl]
      clear hsw hsl hbb z3
      by_cases h1 : W < sl
      · have HX : Hid (o = none) := by unfold Hid; rw [HLN.out]; unfold lineC; rw [if_pos h1]
        clear HLN
        go_wp2_with fail
        go_ret2
        exact ⟨by rw [HX.out]; rfl, HG⟩
      by_cases h2 : W < sw
      · have HX : Hid (o = some (4 * (sw - W) * (sw - W))) := by unfold Hid; rw [HLN.out]; unfold lineC; rw [if_neg h1, if_pos h2]
        obtain ⟨d, hd⟩ : ∃ d, sw - W = d := ⟨_, rfl⟩
        have d1 : d ≤ 10240000 := by omega
        have hq := sq_le (d := d) (K := 10240000) (by omega) d1
        obtain ⟨q, hqq⟩ : ∃ q, 4 * d * d = q := ⟨_, rfl⟩
        have q0 : 0 ≤ q ∧ q ≤ 419430400000000 := by rw [← hqq, Int.mul_assoc]; omega
        obtain ⟨q0, q1⟩ := q0
        have d0 : 0 ≤ d := by omega
        rw [hd, hqq] at HX
        clear hq HLN
        go_wp2_with fail
        go_ret2
        exact ⟨by rw [HX.out]; rfl, HG⟩
      cases bb with
      | true =>
        have HX : Hid (o = some 0) := by unfold Hid; rw [HLN.out]; unfold lineC; rw [if_neg h1, if_neg h2, if_pos rfl]
        clear HLN
        go_wp2_with fail
        go_ret2
        exact ⟨by rw [HX.out]; rfl, HG⟩
      | false =>
        have HX : Hid (o = some ((sw - W) * (sw - W))) := by unfold Hid; rw [HLN.out]; unfold lineC; rw [if_neg h1, if_neg h2, if_neg (by simp)]
        obtain ⟨d, hd⟩ : ∃ d, W - sw = d := ⟨_, rfl⟩
        have d0 : 0 ≤ d := by omega
        have d1 : d ≤ 10000 := by omega
        rw [show sw - W = -d from by omega, Int.neg_mul_neg] at HX
        have hq := sq_le (d := d) (K := 10000) (by omega) (by omega)
        obtain ⟨q, hqq⟩ : ∃ q, d * d = q := ⟨_, rfl⟩
        rw [hqq] at hq HX
        obtain ⟨q0, q1⟩ := hq
        clear HLN
        go_wp2_with fail
        go_ret2
        exact ⟨by rw [HX.out]; rfl, HG⟩

set_option maxHeartbeats 2000000 in
set_option maxRecDepth 100000 in
theorem ref_cost (ao : Option Addr) (cap : Nat) (l : List Bx) (W : Int) (v : Value) (ends : List Int) (w : World) (hv : Bxs w (.slice ao l.length cap) l) (hcap : l.length ≤ cap) (he : Ils w v ends) (hm : ends.length < 9223372036854775807) :
    Calls Try.prog 12 #[.slice ao l.length cap, .int .i64 W, v] w fun e w' => e = .returned (pairV (costS l W ends)) ∧ Hid (w.grownBy w' none) := by
  have A1 := Lib.hid (ref_wrong ao cap l W w hv)
  by_cases hok : wrongS l W = 0
  · unfold costS
    rw [if_pos hok]
    obtain ⟨ho1, ho2, ho3, ho4⟩ := wrongS_ok hok
    have L1 := Lib.hid (fun w1 (hg : w.grownBy w1 none) i j (h1 : i < j) (h2 : j ≤ l.length) => ref_line ao cap l W i j w1 (Slc.grown hv hg fun _ _ h => h) hcap ho4 ho1 ⟨ho2, ho3⟩ h1 h2)
    obtain ⟨ae, ce, rfl, hel⟩ := sl_open he
    have HEL := Lib.hid hel
    obtain ⟨n, hn⟩ : ∃ n, l.length = n := ⟨_, rfl⟩
    obtain ⟨m, hmm⟩ : ∃ m, ends.length = m := ⟨_, rfl⟩
    have HN := Lib.hid hn
    have HM := Lib.hid hmm
    obtain ⟨r, hr⟩ : ∃ r, costR l W 0 0 ends = r := ⟨_, rfl⟩
    have HR0 : Hid (r = costR l W 0 0 (ends.drop 0)) := by unfold Hid; rw [← hr, List.drop_zero]
    simp only [hok, hn] at A1 L1
    rw [hr, hn, hmm]
    rw [hn] at ho1
    rw [hmm] at hm
    have HO := Lib.hid ho4
    clear hn hmm hr hv he hel hok ho4 hcap
    go_enter Try.func12, Try.ntmps12
    go_wp2_with (go_at_call 7; refine (A1.out).mono ?_; rintro e w1 ⟨rfl, hg1⟩; have HG1 := Lib.hid hg1.out; clear hg1)
    go_loopw [9, 10, 23] (fun p q i wr => ∃ (k a : Nat) (all : Int), k ≤ m ∧ i = .int .i64 k ∧ p = .int .i64 a ∧ q = .int .i64 all ∧ a ≤ n ∧ 0 ≤ all ∧ all ≤ 419430400000000 * (a : Int) ∧ Hid (r = costR l W a all (ends.drop k)) ∧ Hid (w.grownBy wr none)) (fun _ _ i _ => m - (intOf i).toNat)
    case atStart => exact ⟨0, 0, 0, Nat.zero_le _, rfl, rfl, rfl, Nat.zero_le _, by omega, by omega, HR0, HG1⟩
    case round =>
      clear HR0
      obtain ⟨k, a, all, hk, rfl, rfl, rfl, ha, hall0, hall1, HR, HG⟩ := hrel
      by_cases hlt : k < m
      · obtain ⟨e, hek⟩ : ∃ e, ends[k]? = some e := ⟨ends[k]'(by rw [HM.out]; exact hlt), List.getElem?_eq_getElem _⟩
        have HS := Lib.hid (costR_step hek HR.out)
        obtain ⟨be, oe, u, rfl, hcu, rfl⟩ := HEL.out k e hek
        have hce : wr.cell? ⟨be, oe + k, none⟩ = some (.int .i64 e) := HG.out.cell hcu (by simp)
        clear hek hcu HR
        by_cases q1 : e ≤ a
        · have HX : Hid (r = (0, 8)) := by unfold Hid; rw [HS.out, if_pos (.inl q1)]
          clear HS
          go_wp2_with fail
          go_ret2
          exact ⟨by rw [HX.out]; rfl, HG⟩
        by_cases q2 : (n : Int) < e
        · have HX : Hid (r = (0, 8)) := by unfold Hid; rw [HS.out, if_pos (.inr (by rw [HN.out]; exact q2))]
          clear HS
          go_wp2_with fail
          go_ret2
          exact ⟨by rw [HX.out]; rfl, HG⟩
        obtain ⟨e, rfl⟩ : ∃ e' : Nat, e = e' := ⟨e.toNat, by omega⟩
        have HS2 : Hid (r = match line l W a e with | none => (0, 6) | some c => costR l W e (all + c) (ends.drop (k + 1))) := by
          unfold Hid
          rw [HS.out, if_neg (by rw [HN.out]; omega), Int.toNat_natCast]
          cases line l W a e <;> rfl
        clear HS
        have A2 := Lib.hid (L1.out wr HG.out a e (by omega) (by omega))
        have hlb := fun c => line_bound (c := c) (i := a) (j := e) HO.out (by rw [HN.out]; exact ho1) ⟨ho2, ho3⟩ (by omega) (by rw [HN.out]; omega)
        cases hl : line l W a e with
        | none =>
          have HX : Hid (r = (0, 6)) := by unfold Hid; rw [HS2.out, hl]
          rw [hl, show costV none = .tuple #[.int .i64 0, .bool false] from rfl] at A2
          clear HS2 hlb hl
          go_wp2_with (go_at_call 17; refine (A2.out).mono ?_; rintro e w4 ⟨rfl, hg4⟩; have HG4 := Lib.hid (grown_trans HG.out hg4.out); clear hg4)
          go_ret2
          exact ⟨by rw [HX.out]; rfl, HG4.out⟩
        | some c =>
          obtain ⟨y1, y2⟩ := hlb c hl
          have HX : Hid (r = costR l W e (all + c) (ends.drop (k + 1))) := by unfold Hid; rw [HS2.out, hl]
          rw [hl, show costV (some c) = .tuple #[.int .i64 c, .bool true] from rfl] at A2
          clear HS2 hlb hl
          go_wp2_with (go_at_call 17; refine (A2.out).mono ?_; rintro e w4 ⟨rfl, hg4⟩; have HG4 := Lib.hid (grown_trans HG.out hg4.out); clear hg4)
          go_roundw
          case rel => exact ⟨k + 1, e, all + c, by omega, by go_num, rfl, rfl, by omega, by omega, by omega, HX, HG4⟩
          case measure => simp [intOf]; omega
      · obtain rfl : k = m := by omega
        have hend : r = if a = n then (all, 0) else (0, 8) := by
          have := HR.out
          rw [List.drop_eq_nil_of_le (by rw [HM.out]; exact Nat.le_refl _)] at this
          rw [this]
          unfold costR
          rw [HN.out]
        by_cases q : a < n
        · have HX : Hid (r = (0, 8)) := by unfold Hid; rw [hend, if_neg (by omega)]
          clear hend HR
          go_wp2_with fail
          go_ret2
          exact ⟨by rw [HX.out]; rfl, HG⟩
        · have HX : Hid (r = (all, 0)) := by unfold Hid; rw [hend, if_pos (by omega)]
          clear hend HR
          go_wp2_with fail
          go_ret2
          exact ⟨by rw [HX.out]; rfl, HG⟩
  · unfold costS
    rw [if_neg hok]
    obtain ⟨r, hr⟩ : ∃ r, wrongS l W = r := ⟨_, rfl⟩
    rw [hr] at A1 hok ⊢
    have h2 : (r != 0) = true := by simpa using hok
    obtain ⟨n, hn⟩ : ∃ n, l.length = n := ⟨_, rfl⟩
    rw [hn] at A1 ⊢
    clear hr hv hn he hcap
    go_enter Try.func12, Try.ntmps12
    go_wp2_with (go_at_call 7; refine (A1.out).mono ?_; rintro e w1 ⟨rfl, hg1⟩; have HG1 := Lib.hid hg1.out; clear hg1)
    go_ret2
    exact ⟨rfl, HG1⟩

end Go.Proofs.Ytlinbocnhmkoeaa.SLine
