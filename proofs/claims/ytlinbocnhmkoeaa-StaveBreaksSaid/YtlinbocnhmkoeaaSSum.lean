/- Cost, the program's. -/
import Derived.Test.YtlinbocnhmkoeaaSWrong
import Derived.BigRegion
namespace Go.Proofs.Ytlinbocnhmkoeaa.SSum
open Go Go.RowKit Go.Proofs.Ytlinbocnhmkoeaa.SMod Go.Proofs.Ytlinbocnhmkoeaa.SBest Go.Proofs.Ytlinbocnhmkoeaa.SCost Go.Proofs.Ytlinbocnhmkoeaa.SWrong Go.Proofs.Ytlinbocnhmkoeaa.Opn Go.Proofs.Ytlinbocnhmkoeaa.Hp Go.Proofs.Ytlinbocnhmkoeaa.Rd
set_option linter.unusedVariables false

def costR (l : List Bx) (W : Int) : Nat → Int → List Int → Int × Int
  | at_, all, [] => if at_ = l.length then (all, 0) else (0, 8)
  | at_, all, e :: r => if e ≤ at_ ∨ (l.length : Int) < e then (0, 8) else
    match line l W at_ e.toNat with
    | none => (0, 6)
    | some c => costR l W e.toNat (all + c) r

def costS (l : List Bx) (W : Int) (ends : List Int) : Int × Int := if wrongS l W = 0 then costR l W 0 0 ends else (0, wrongS l W)

def pairV (p : Int × Int) : Value := .tuple #[.int .i64 p.1, .int .i64 p.2]

theorem costR_step {l : List Bx} {W : Int} {at_ k : Nat} {all e : Int} {ends : List Int} (hk : ends[k]? = some e) {x : Int × Int} (h : x = costR l W at_ all (ends.drop k)) :
    x = if e ≤ at_ ∨ (l.length : Int) < e then (0, 8) else match line l W at_ e.toNat with | none => (0, 6) | some c => costR l W e.toNat (all + c) (ends.drop (k + 1)) := by
  obtain ⟨hlt, he⟩ := List.getElem?_eq_some_iff.1 hk
  rw [List.drop_eq_getElem_cons hlt, he] at h
  exact h

/-- A line's row: how wide, and at least. -/
def Row2 (w : World) (g : Nat) (n m : Int) : Prop := w.heap[g]? = some (.cells #[.int .i64 n, .int .i64 m] 39 (0, 0))

theorem Row2.set0 {w : World} {g : Nat} {n m : Int} (h : Row2 w g n m) (x : Int) : Row2 ((w.setCell ⟨g, 0, none⟩ (.int .i64 x)).drew) g x m := set_self h _
theorem Row2.set1 {w : World} {g : Nat} {n m : Int} (h : Row2 w g n m) (x : Int) : Row2 ((w.setCell ⟨g, 1, none⟩ (.int .i64 x)).drew) g n x := set_self h _

set_option maxHeartbeats 2000000 in
set_option maxRecDepth 100000 in
theorem cost_good (ao : Option Addr) (cap : Nat) (l : List Bx) (W : Int) (v : Value) (ends : List Int) (w : World) (hv : Bxs w (.slice ao l.length cap) l) (he : Ils w v ends) (hok : wrongS l W = 0) (hm : ends.length < 9223372036854775807) :
    Calls Try.prog 11 #[.slice ao l.length cap, .int .i64 W, v] w fun e w' => e = .returned (pairV (costR l W 0 0 ends)) ∧ Hid (w.grownBy w' none) := by
  obtain ⟨ho1, ho2, ho3, ho4⟩ := wrongS_ok hok
  have A1 := Lib.hid (wrong_calls ao cap l W w hv)
  obtain ⟨ae, ce, rfl, hel⟩ := sl_open he
  have HEL := Lib.hid hel
  obtain ⟨n, hn⟩ : ∃ n, l.length = n := ⟨_, rfl⟩
  obtain ⟨m, hmm⟩ : ∃ m, ends.length = m := ⟨_, rfl⟩
  have HN := Lib.hid hn
  have HM := Lib.hid hmm
  obtain ⟨r, hr⟩ : ∃ r, costR l W 0 0 ends = r := ⟨_, rfl⟩
  have HR0 : Hid (r = costR l W 0 0 (ends.drop 0)) := by unfold Hid; rw [← hr, List.drop_zero]
  rw [hok, hn] at A1
  rw [hr, hn, hmm]
  rw [hn] at hv ho1
  rw [hmm] at hm
  have HV := Lib.hid hv
  have HO := Lib.hid ho4
  clear hn hmm hr hv he hel hok ho4
  go_enter Try.func11, Try.ntmps11
  go_wp2_with (go_at_call 6; refine (A1.out).mono ?_; rintro e w1 ⟨rfl, hg1⟩; have HG1 := Lib.hid hg1.out; clear hg1)
  go_loopw [9, 10, 24] (fun p q i wr => ∃ (k a : Nat) (all : Int), k ≤ m ∧ i = .int .i64 k ∧ p = .int .i64 a ∧ q = .int .i64 all ∧ a ≤ n ∧ 0 ≤ all ∧ all ≤ 419430400000000 * (a : Int) ∧ Hid (r = costR l W a all (ends.drop k)) ∧ Hid (w.grownBy wr none)) (fun _ _ i _ => m - (intOf i).toNat)
  case atStart => exact ⟨0, 0, 0, Nat.zero_le _, rfl, rfl, rfl, Nat.zero_le _, by omega, by omega, HR0, HG1⟩
  case round =>
    clear HR0
    obtain ⟨k, a, all, hk, rfl, rfl, rfl, ha, hall0, hall1, HR, HG⟩ := hrel
    by_cases hlt : k < m
    · obtain ⟨e, hek⟩ : ∃ e, ends[k]? = some e := ⟨ends[k]'(by rw [HM.out]; exact hlt), List.getElem?_eq_getElem _⟩
      have HS := Lib.hid (costR_step hek HR.out)
      obtain ⟨be, oe, u, rfl, hcu, rfl⟩ := HEL.out k e hek
      have hce : wr.cell? ⟨be, oe + k, none⟩ = some (.int .i64 e) := HG.out.cell hcu (by simp)
      clear hek hcu HR
      by_cases q1 : e ≤ a
      · have HX : Hid (r = (0, 8)) := by unfold Hid; rw [HS.out, if_pos (.inl q1)]
        clear HS
        go_wp2_with fail
        go_ret2
        exact ⟨by rw [HX.out]; rfl, HG⟩
      by_cases q2 : (n : Int) < e
      · have HX : Hid (r = (0, 8)) := by unfold Hid; rw [HS.out, if_pos (.inr (by rw [HN.out]; exact q2))]
        clear HS
        go_wp2_with fail
        go_ret2
        exact ⟨by rw [HX.out]; rfl, HG⟩
      obtain ⟨e, rfl⟩ : ∃ e' : Nat, e = e' := ⟨e.toNat, by omega⟩
      have HS2 : Hid (r = match line l W a e with | none => (0, 6) | some c => costR l W e (all + c) (ends.drop (k + 1))) := by
        unfold Hid
        rw [HS.out, if_neg (by rw [HN.out]; omega), Int.toNat_natCast]
      clear HS
      have HG3 : Hid (w.grownBy (wr.alloc (.cells #[.int .i64 0, .int .i64 0] 39)) none) := grown_alloc HG.out _
      have HRW : Hid (Row2 (wr.alloc (.cells #[.int .i64 0, .int .i64 0] 39)) wr.heap.size 0 0) := heap_alloc_new _ _
      have hsz : w.heap.size ≤ wr.heap.size := HG.out.size
      go_upto_region 11 with fail
      obtain ⟨g, hg⟩ : ∃ g, wr.heap.size = g := ⟨_, rfl⟩
      obtain ⟨wn, hwn⟩ : ∃ wn, wr.alloc (.cells #[.int .i64 0, .int .i64 0] 39) = wn := ⟨_, rfl⟩
      rw [hwn] at HG3
      rw [hwn, hg] at HRW
      rw [hg] at hsz
      simp only [hg, hwn]
      clear hwn hg
      go_wp2_with fail
      go_loopw [9] (fun p wq => ∃ j : Nat, a ≤ j ∧ j ≤ e ∧ p = .int .i64 j ∧ Hid (Row2 wq g (sumW l a j) (sumL l a j)) ∧ Hid (w.grownBy wq none)) (fun p _ => e - (intOf p).toNat)
      case atStart => exact ⟨a, Nat.le_refl _, by omega, rfl, by unfold Hid; rw [sumW_self, sumL_self]; exact HRW, HG3⟩
      case round =>
        clear HRW HG3
        obtain ⟨j, hj1, hj2, rfl, HRW, HGq⟩ := hrel
        by_cases hje : j < e
        · obtain ⟨b, hbk⟩ : ∃ b, l[j]? = some b := ⟨l[j]'(by rw [HN.out]; omega), List.getElem?_eq_getElem _⟩
          have hs1 := sumW_snoc l hbk hj1
          have hs2 := sumL_snoc l hbk hj1
          have hb0 := sum_bound (i := a) (j := j) HO.out hj1 (by rw [HN.out]; omega)
          have hbb := HO.out b (List.mem_of_getElem? hbk)
          have HC := Lib.hid (fun w' (hg : w.grownBy w' none) => bx_at HN.out HV.out hg hbk)
          obtain ⟨bk, off, rfl, hc⟩ := HC.out _ HGq.out
          have HC2 : ∀ w', w.grownBy w' none → w'.rangeAt bk (off + j * 2) (bxCells b) := fun w' hg => by
            obtain ⟨bk', off', he, h⟩ := HC.out w' hg
            injection he with he; injection he with h1 h2; subst h1 h2
            exact h
          have HC2 := Lib.hid HC2
          clear HC
          obtain ⟨wd, gv⟩ := b
          unfold okB at hbb
          simp only at hs1 hs2 hbb
          have c0 : wr.cell? ⟨bk, off + j * 2, none⟩ = some (.int .i64 wd) := hc 0 _ rfl
          have c1 : wr.cell? ⟨bk, off + j * 2 + 1, none⟩ = some (.int .i64 gv) := hc 1 _ rfl
          obtain ⟨sw, hsw⟩ : ∃ s, sumW l a j = s := ⟨_, rfl⟩
          obtain ⟨sl, hsl⟩ : ∃ s, sumL l a j = s := ⟨_, rfl⟩
          rw [hsw] at HRW hs1 hb0
          rw [hsl] at HRW hs2 hb0
          have HS1 := Lib.hid hs1
          have HS22 := Lib.hid hs2
          clear hs1 hs2 hc hbk hsw hsl
          obtain ⟨y1, y2, y3, y4⟩ := hbb
          obtain ⟨z1, z2, z3⟩ := hb0
          have r0 : wr.cell? ⟨g, 0, none⟩ = some (.int .i64 sw) := cell_of HRW.out 0
          have r1 : wr.cell? ⟨g, 1, none⟩ = some (.int .i64 sl) := cell_of HRW.out 1
          have f0 : wr.frozen? ⟨g, 0, none⟩ = false := free_of HRW.out 0
          have f1 : wr.frozen? ⟨g, 1, none⟩ = false := free_of HRW.out 1
          have z4 : sw ≤ 10240000 := by omega
          clear z3
          go_upto_region 13 with fail
          go_region
          obtain ⟨w2, hw2⟩ : ∃ w2, (wr.setCell ⟨g, 0, none⟩ (.int .i64 (sw + wd))).drew = w2 := ⟨_, rfl⟩
          have HRW2 : Hid (Row2 w2 g (sw + wd) sl) := hw2 ▸ HRW.out.set0 _
          have HG2 : Hid (w.grownBy w2 none) := hw2 ▸ grown_drew (grown_set HGq.out (.inr hsz) _)
          have c0 : w2.cell? ⟨bk, off + j * 2, none⟩ = some (.int .i64 wd) := HC2.out w2 HG2.out 0 _ rfl
          have c1 : w2.cell? ⟨bk, off + j * 2 + 1, none⟩ = some (.int .i64 gv) := HC2.out w2 HG2.out 1 _ rfl
          have r0 : w2.cell? ⟨g, 0, none⟩ = some (.int .i64 (sw + wd)) := cell_of HRW2.out 0
          have r1 : w2.cell? ⟨g, 1, none⟩ = some (.int .i64 sl) := cell_of HRW2.out 1
          have f1 : w2.frozen? ⟨g, 1, none⟩ = false := free_of HRW2.out 1
          rw [hw2]
          clear hw2 HRW HGq
          go_upto_region 14 with fail
          go_region
          obtain ⟨w3, hw3⟩ : ∃ w3, (w2.setCell ⟨g, 1, none⟩ (.int .i64 (sl + (wd - gv)))).drew = w3 := ⟨_, rfl⟩
          have HRW3 : Hid (Row2 w3 g (sumW l a (j + 1)) (sumL l a (j + 1))) := by
            unfold Hid
            rw [HS1.out, HS22.out]
            exact hw3 ▸ HRW2.out.set1 _
          have HG3 : Hid (w.grownBy w3 none) := hw3 ▸ grown_drew (grown_set HG2.out (.inr hsz) _)
          rw [hw3]
          clear hw3 HRW2 HG2 c0 c1 r0 r1 f1
          go_wp2_with fail
          go_roundw
          case rel => exact ⟨j + 1, by omega, by omega, by go_num, HRW3, HG3⟩
          case measure => simp [intOf]; omega
        · obtain rfl : j = e := by omega
          have hsb := sum_bound (i := a) (j := j) HO.out hj1 (by rw [HN.out]; omega)
          obtain ⟨sw, hsw⟩ : ∃ s, sumW l a j = s := ⟨_, rfl⟩
          obtain ⟨sl, hsl⟩ : ∃ s, sumL l a j = s := ⟨_, rfl⟩
          have HLN : Hid (line l W a j = lineC W sw sl (decide ((j : Int) = n))) := by
            unfold Hid line
            rw [hsw, hsl, HN.out]
            congr 1
            rw [Bool.eq_iff_iff]; simp; omega
          rw [hsw] at HRW hsb
          rw [hsl] at HRW hsb
          clear hsw hsl
          obtain ⟨z1, z2, z3⟩ := hsb
          have r0 : wr.cell? ⟨g, 0, none⟩ = some (.int .i64 sw) := cell_of HRW.out 0
          have r1 : wr.cell? ⟨g, 1, none⟩ = some (.int .i64 sl) := cell_of HRW.out 1
          obtain ⟨bb, hbb⟩ : ∃ bb, decide ((j : Int) = n) = bb := ⟨_, rfl⟩
          have hbb2 : ((j : Int) == n) = bb := by rw [← hbb]; rfl
          have A2 := Lib.hid (cost_calls sw sl W bb wr ⟨by omega, by omega⟩ ⟨by omega, by omega⟩ ⟨by omega, by omega⟩)
          rw [hbb] at HLN
          have hlb := fun c => line_bound (c := c) (i := a) (j := j) HO.out (by rw [HN.out]; exact ho1) ⟨ho2, ho3⟩ hj1 (by rw [HN.out]; omega)
          cases hl : lineC W sw sl bb with
          | none =>
            have HX : Hid (r = (0, 6)) := by unfold Hid; rw [HS2.out, HLN.out, hl]
            rw [hl, show costV none = .tuple #[.int .i64 0, .bool false] from rfl] at A2
            clear HS2 HLN hlb
            go_wp2_with (go_at_call 15; refine (A2.out).mono ?_; rintro e w4 ⟨rfl, hg4⟩; have HG4 := Lib.hid (grown_trans HGq.out hg4.out); clear hg4)
            go_ret2
            exact ⟨by rw [HX.out]; rfl, HG4.out⟩
          | some c =>
            obtain ⟨y1, y2⟩ := hlb c (by rw [HLN.out, hl])
            have HX : Hid (r = costR l W j (all + c) (ends.drop (k + 1))) := by unfold Hid; rw [HS2.out, HLN.out, hl]
            rw [hl, show costV (some c) = .tuple #[.int .i64 c, .bool true] from rfl] at A2
            clear HS2 HLN hlb
            go_wp2_with (go_at_call 15; refine (A2.out).mono ?_; rintro e w4 ⟨rfl, hg4⟩; have HG4 := Lib.hid (grown_trans HGq.out hg4.out); clear hg4)
            go_roundw
            case rel => exact ⟨k + 1, j, all + c, by omega, by go_num, rfl, rfl, by omega, by omega, by omega, HX, HG4⟩
            case measure => simp [intOf]; omega
    · obtain rfl : k = m := by omega
      have hend : r = if a = n then (all, 0) else (0, 8) := by
        have := HR.out
        rw [List.drop_eq_nil_of_le (by rw [HM.out]; exact Nat.le_refl _)] at this
        rw [this]
        unfold costR
        rw [HN.out]
      by_cases q : a = n
      · have HX : Hid (r = (all, 0)) := by unfold Hid; rw [hend, if_pos q]
        have q2 : ((a : Int) != n) = false := by simp [q]
        clear hend HR
        go_wp2_with fail
        go_ret2
        exact ⟨by rw [HX.out]; rfl, HG⟩
      · have HX : Hid (r = (0, 8)) := by unfold Hid; rw [hend, if_neg q]
        have q2 : ((a : Int) != n) = true := by simp; omega
        clear hend HR
        go_wp2_with fail
        go_ret2
        exact ⟨by rw [HX.out]; rfl, HG⟩

theorem cost_calls2 (ao : Option Addr) (cap : Nat) (l : List Bx) (W : Int) (v : Value) (ends : List Int) (w : World) (hv : Bxs w (.slice ao l.length cap) l) (he : Ils w v ends) (hm : ends.length < 9223372036854775807) :
    Calls Try.prog 11 #[.slice ao l.length cap, .int .i64 W, v] w fun e w' => e = .returned (pairV (costS l W ends)) ∧ Hid (w.grownBy w' none) := by
  by_cases hok : wrongS l W = 0
  · unfold costS
    rw [if_pos hok]
    exact cost_good ao cap l W v ends w hv he hok hm
  · unfold costS
    rw [if_neg hok]
    have A1 := Lib.hid (wrong_calls ao cap l W w hv)
    obtain ⟨r, hr⟩ : ∃ r, wrongS l W = r := ⟨_, rfl⟩
    rw [hr] at A1 hok ⊢
    have h2 : (r != 0) = true := by simpa using hok
    obtain ⟨n, hn⟩ : ∃ n, l.length = n := ⟨_, rfl⟩
    rw [hn] at A1 ⊢
    clear hr hv hn he
    go_enter Try.func11, Try.ntmps11
    go_wp2_with (go_at_call 6; refine (A1.out).mono ?_; rintro e w1 ⟨rfl, hg1⟩; have HG1 := Lib.hid hg1.out; clear hg1)
    go_ret2
    exact ⟨rfl, HG1⟩

end Go.Proofs.Ytlinbocnhmkoeaa.SSum
