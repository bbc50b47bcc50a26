/- Wrong: the program's and the reference's. -/
import Derived.Test.YtlinbocnhmkoeaaSCost
namespace Go.Proofs.Ytlinbocnhmkoeaa.SWrong
open Go Go.RowKit Go.Proofs.Ytlinbocnhmkoeaa.SMod Go.Proofs.Ytlinbocnhmkoeaa.SBest Go.Proofs.Ytlinbocnhmkoeaa.SCost Go.Proofs.Ytlinbocnhmkoeaa.Opn Go.Proofs.Ytlinbocnhmkoeaa.Hp Go.Proofs.Ytlinbocnhmkoeaa.Rd
set_option linter.unusedVariables false

theorem wrongB_step {l : List Bx} {k : Nat} {b : Bx} (hk : l[k]? = some b) {x : Int} (h : x = wrongB (l.drop k)) : (okB b → x = wrongB (l.drop (k + 1))) ∧ (¬ okB b → x = 3) := by
  obtain ⟨hlt, he⟩ := List.getElem?_eq_some_iff.1 hk
  rw [List.drop_eq_getElem_cons hlt, he] at h
  unfold wrongB at h
  constructor
  · intro h0; rw [if_pos h0] at h; exact h
  · intro h0; rw [if_neg h0] at h; exact h

theorem bx_at {w w' : World} {ao : Option Addr} {n cap k : Nat} {l : List Bx} {b : Bx} (hn : l.length = n) (h : Bxs w (.slice ao n cap) l) (hg : w.grownBy w' none) (hk : l[k]? = some b) :
    ∃ bk off, ao = some ⟨bk, off, none⟩ ∧ w'.rangeAt bk (off + k * 2) (bxCells b) := by
  rcases h with ⟨bk, off, cap', hh, hel⟩ | ⟨_, _, _, hnil⟩
  · simp only [Value.slice.injEq] at hh
    obtain ⟨cs, _, h2, rfl⟩ := hel k b hk
    exact ⟨bk, off, hh.1, fun j v hj => hg.cell (by rw [Nat.add_assoc]; exact h2 j v hj) (by simp)⟩
  · subst hnil; simp at hk

set_option maxHeartbeats 1000000 in
set_option maxRecDepth 100000 in
theorem wrong_calls (ao : Option Addr) (cap : Nat) (l : List Bx) (W : Int) (w : World) (hv : Bxs w (.slice ao l.length cap) l) :
    Calls Try.prog 6 #[.slice ao l.length cap, .int .i64 W] w fun e w' => e = .returned (.int .i64 (wrongS l W)) ∧ Hid (w.grownBy w' none) := by
  obtain ⟨n, hn⟩ : ∃ n, l.length = n := ⟨_, rfl⟩
  have HN := Lib.hid hn
  have HG0 : Hid (w.grownBy w none) := grown_refl _ _
  rw [hn] at hv ⊢
  have hw : wrongS l W = if 1024 < n then 5 else if W < 1 ∨ 10000 < W then 3 else wrongB l := by rw [← hn]; rfl
  by_cases b1 : 1024 < n
  · rw [hw, if_pos b1]
    have b1' : (1024 : Int) < n := by omega
    clear hn hw hv
    go_enter Try.func6, Try.ntmps6
    go_wp2_with fail
    go_ret
    exact ⟨rfl, HG0⟩
  have b1' : ¬ (1024 : Int) < n := by omega
  rw [if_neg b1] at hw
  by_cases b2 : W < 1
  · rw [hw, if_pos (.inl b2)]
    clear hn hw hv
    go_enter Try.func6, Try.ntmps6
    go_wp2_with fail
    go_ret
    exact ⟨rfl, HG0⟩
  by_cases b3 : 10000 < W
  · rw [hw, if_pos (.inr b3)]
    clear hn hw hv
    go_enter Try.func6, Try.ntmps6
    go_wp2_with fail
    go_ret
    exact ⟨rfl, HG0⟩
  rw [if_neg (by omega)] at hw
  obtain ⟨r, hr⟩ : ∃ r, wrongS l W = r := ⟨_, rfl⟩
  have HW : Hid (r = wrongB l) := by unfold Hid; rw [← hr]; exact hw
  rw [hr]
  have HV := Lib.hid hv
  clear hn hw hr hv
  go_enter Try.func6, Try.ntmps6
  go_wp2_with fail
  go_loopw [18] (fun i wr => ∃ k : Nat, k ≤ n ∧ i = .int .i64 k ∧ Hid (r = wrongB (l.drop k)) ∧ Hid (w.grownBy wr none)) (fun i _ => n - (intOf i).toNat)
  case atStart => exact ⟨0, Nat.zero_le _, rfl, by simpa using HW, HG0⟩
  case round =>
    clear HW
    obtain ⟨k, hk, rfl, HR, HG⟩ := hrel
    by_cases hlt : k < n
    · obtain ⟨b, hbk⟩ : ∃ b, l[k]? = some b := ⟨l[k]'(by rw [HN.out]; exact hlt), List.getElem?_eq_getElem _⟩
      obtain ⟨hA, hB⟩ := wrongB_step hbk HR.out
      have HA := Lib.hid hA
      have HB := Lib.hid hB
      obtain ⟨bk, off, rfl, hc⟩ := bx_at HN.out HV.out HG.out hbk
      obtain ⟨wd, gv⟩ := b
      have c0 : wr.cell? ⟨bk, off + k * 2, none⟩ = some (.int .i64 wd) := hc 0 _ rfl
      have c1 : wr.cell? ⟨bk, off + k * 2 + 1, none⟩ = some (.int .i64 gv) := hc 1 _ rfl
      clear hA hB hc hbk
      have HGA : Hid (w.grownBy (wr.alloc (.cells #[.int .i64 wd, .int .i64 gv] 35)) none) := grown_alloc HG.out _
      go_upto_region 8 with fail
      clear c0 c1
      obtain ⟨g, hg⟩ : ∃ g, wr.heap.size = g := ⟨_, rfl⟩
      obtain ⟨wn, hwn⟩ : ∃ wn, wr.alloc (.cells #[.int .i64 wd, .int .i64 gv] 35) = wn := ⟨_, rfl⟩
      have hrow : wn.heap[g]? = some (.cells #[.int .i64 wd, .int .i64 gv] 35 (0, 0)) := by
        rw [← hwn, ← hg]; exact heap_alloc_new _ _
      have c0 : wn.cell? ⟨g, 0, none⟩ = some (.int .i64 wd) := cell_of hrow 0
      have c1 : wn.cell? ⟨g, 1, none⟩ = some (.int .i64 gv) := cell_of hrow 1
      rw [hwn] at HGA
      simp only [hg, hwn]
      clear hrow hwn hg
      go_cut [18, 41] from 18 to 42 (fun i c wx => i = .int .i64 k ∧ c = .bool (decide (wd < 1 ∨ 10000 < wd ∨ gv < 0 ∨ wd < gv)) ∧ wx = wn)
      case first =>
        clear HA HB HGA HV HN HR HG hlt hk b1' b1 b2 b3
        by_cases p1 : wd < 1
        · go_wp2_with fail
          go_meet
          exact ⟨rfl, congrArg Value.bool (decide_eq_true (.inl p1)).symm, rfl⟩
        by_cases p2 : 10000 < wd
        · go_wp2_with fail
          go_meet
          exact ⟨rfl, congrArg Value.bool (decide_eq_true (.inr (.inl p2))).symm, rfl⟩
        by_cases p3 : gv < 0
        · go_wp2_with fail
          go_meet
          exact ⟨rfl, congrArg Value.bool (decide_eq_true (.inr (.inr (.inl p3)))).symm, rfl⟩
        by_cases p4 : wd < gv
        · go_wp2_with fail
          go_meet
          exact ⟨rfl, congrArg Value.bool (decide_eq_true (.inr (.inr (.inr p4)))).symm, rfl⟩
        · go_wp2_with fail
          go_meet
          exact ⟨rfl, congrArg Value.bool (decide_eq_false (by omega)).symm, rfl⟩
      case rest =>
        obtain ⟨rfl, rfl, rfl⟩ := hcut
        by_cases hb : wd < 1 ∨ 10000 < wd ∨ gv < 0 ∨ wd < gv
        · simp only [hb, decide_true]
          have HX : Hid (r = 3) := HB.out (by unfold okB; simp only; omega)
          clear HA HB hb
          go_wp2_with fail
          go_ret
          exact ⟨by rw [HX.out]; rfl, HGA⟩
        simp only [hb, decide_false]
        have HX : Hid (r = wrongB (l.drop (k + 1))) := HA.out (by unfold okB; simp only; omega)
        clear HA HB hb
        go_wp2_with fail
        go_roundw
        case rel => exact ⟨k + 1, by omega, by go_num, HX, HGA⟩
        case measure => simp [intOf]; omega
    · obtain rfl : k = n := by omega
      have HX : Hid (r = 0) := by
        have := HR.out
        rw [List.drop_eq_nil_of_le (by rw [HN.out]; exact Nat.le_refl _)] at this
        exact this
      go_wp2_with fail
      go_ret
      exact ⟨by rw [HX.out]; rfl, HG⟩

set_option maxHeartbeats 1000000 in
set_option maxRecDepth 100000 in
theorem ref_wrong (ao : Option Addr) (cap : Nat) (l : List Bx) (W : Int) (w : World) (hv : Bxs w (.slice ao l.length cap) l) :
    Calls Try.prog 7 #[.slice ao l.length cap, .int .i64 W] w fun e w' => e = .returned (.int .i64 (wrongS l W)) ∧ Hid (w.grownBy w' none) := by
  obtain ⟨n, hn⟩ : ∃ n, l.length = n := ⟨_, rfl⟩
  have HN := Lib.hid hn
  have HG0 : Hid (w.grownBy w none) := grown_refl _ _
  rw [hn] at hv ⊢
  have hw : wrongS l W = if 1024 < n then 5 else if W < 1 ∨ 10000 < W then 3 else wrongB l := by rw [← hn]; rfl
  by_cases b1 : 1024 < n
  · rw [hw, if_pos b1]
    have b1' : (1024 : Int) < n := by omega
    clear hn hw hv
    go_enter Try.func7, Try.ntmps7
    go_wp2_with fail
    go_ret
    exact ⟨rfl, HG0⟩
  have b1' : ¬ (1024 : Int) < n := by omega
  rw [if_neg b1] at hw
  by_cases b2 : W < 1
  · rw [hw, if_pos (.inl b2)]
    clear hn hw hv
    go_enter Try.func7, Try.ntmps7
    go_wp2_with fail
    go_ret
    exact ⟨rfl, HG0⟩
  by_cases b3 : 10000 < W
  · rw [hw, if_pos (.inr b3)]
    clear hn hw hv
    go_enter Try.func7, Try.ntmps7
    go_wp2_with fail
    go_ret
    exact ⟨rfl, HG0⟩
  rw [if_neg (by omega)] at hw
  obtain ⟨r, hr⟩ : ∃ r, wrongS l W = r := ⟨_, rfl⟩
  have HW : Hid (r = wrongB l) := by unfold Hid; rw [← hr]; exact hw
  rw [hr]
  have HV := Lib.hid hv
  clear hn hw hr hv
  go_enter Try.func7, Try.ntmps7
  go_wp2_with fail
  go_loopw [18] (fun i wr => ∃ k : Nat, k ≤ n ∧ i = .int .i64 k ∧ Hid (r = wrongB (l.drop k)) ∧ Hid (w.grownBy wr none)) (fun i _ => n - (intOf i).toNat)
  case atStart => exact ⟨0, Nat.zero_le _, rfl, by simpa using HW, HG0⟩
  case round =>
    clear HW
    obtain ⟨k, hk, rfl, HR, HG⟩ := hrel
    by_cases hlt : k < n
    · obtain ⟨b, hbk⟩ : ∃ b, l[k]? = some b := ⟨l[k]'(by rw [HN.out]; exact hlt), List.getElem?_eq_getElem _⟩
      obtain ⟨hA, hB⟩ := wrongB_step hbk HR.out
      have HA := Lib.hid hA
      have HB := Lib.hid hB
      obtain ⟨bk, off, rfl, hc⟩ := bx_at HN.out HV.out HG.out hbk
      obtain ⟨wd, gv⟩ := b
      have c0 : wr.cell? ⟨bk, off + k * 2, none⟩ = some (.int .i64 wd) := hc 0 _ rfl
      have c1 : wr.cell? ⟨bk, off + k * 2 + 1, none⟩ = some (.int .i64 gv) := hc 1 _ rfl
      clear hA hB hc hbk
      have HGA : Hid (w.grownBy (wr.alloc (.cells #[.int .i64 wd, .int .i64 gv] 35)) none) := grown_alloc HG.out _
      go_upto_region 8 with fail
      clear c0 c1
      obtain ⟨g, hg⟩ : ∃ g, wr.heap.size = g := ⟨_, rfl⟩
      obtain ⟨wn, hwn⟩ : ∃ wn, wr.alloc (.cells #[.int .i64 wd, .int .i64 gv] 35) = wn := ⟨_, rfl⟩
      have hrow : wn.heap[g]? = some (.cells #[.int .i64 wd, .int .i64 gv] 35 (0, 0)) := by
        rw [← hwn, ← hg]; exact heap_alloc_new _ _
      have c0 : wn.cell? ⟨g, 0, none⟩ = some (.int .i64 wd) := cell_of hrow 0
      have c1 : wn.cell? ⟨g, 1, none⟩ = some (.int .i64 gv) := cell_of hrow 1
      rw [hwn] at HGA
      simp only [hg, hwn]
      clear hrow hwn hg
      go_cut [18, 41] from 18 to 42 (fun i c wx => i = .int .i64 k ∧ c = .bool (decide (wd < 1 ∨ 10000 < wd ∨ gv < 0 ∨ wd < gv)) ∧ wx = wn)
      case first =>
        clear HA HB HGA HV HN HR HG hlt hk b1' b1 b2 b3
        by_cases p1 : wd < 1
        · go_wp2_with fail
          go_meet
          exact ⟨rfl, congrArg Value.bool (decide_eq_true (.inl p1)).symm, rfl⟩
        by_cases p2 : 10000 < wd
        · go_wp2_with fail
          go_meet
          exact ⟨rfl, congrArg Value.bool (decide_eq_true (.inr (.inl p2))).symm, rfl⟩
        by_cases p3 : gv < 0
        · go_wp2_with fail
          go_meet
          exact ⟨rfl, congrArg Value.bool (decide_eq_true (.inr (.inr (.inl p3)))).symm, rfl⟩
        by_cases p4 : wd < gv
        · go_wp2_with fail
          go_meet
          exact ⟨rfl, congrArg Value.bool (decide_eq_true (.inr (.inr (.inr p4)))).symm, rfl⟩
        · go_wp2_with fail
          go_meet
          exact ⟨rfl, congrArg Value.bool (decide_eq_false (by omega)).symm, rfl⟩
      case rest =>
        obtain ⟨rfl, rfl, rfl⟩ := hcut
        by_cases hb : wd < 1 ∨ 10000 < wd ∨ gv < 0 ∨ wd < gv
        · simp only [hb, decide_true]
          have HX : Hid (r = 3) := HB.out (by unfold okB; simp only; omega)
          clear HA HB hb
          go_wp2_with fail
          go_ret
          exact ⟨by rw [HX.out]; rfl, HGA⟩
        simp only [hb, decide_false]
        have HX : Hid (r = wrongB (l.drop (k + 1))) := HA.out (by unfold okB; simp only; omega)
        clear HA HB hb
        go_wp2_with fail
        go_roundw
        case rel => exact ⟨k + 1, by omega, by go_num, HX, HGA⟩
        case measure => simp [intOf]; omega
    · obtain rfl : k = n := by omega
      have HX : Hid (r = 0) := by
        have := HR.out
        rw [List.drop_eq_nil_of_le (by rw [HN.out]; exact Nat.le_refl _)] at this
        exact this
      go_wp2_with fail
      go_ret
      exact ⟨by rw [HX.out]; rfl, HG⟩

end Go.Proofs.Ytlinbocnhmkoeaa.SWrong
