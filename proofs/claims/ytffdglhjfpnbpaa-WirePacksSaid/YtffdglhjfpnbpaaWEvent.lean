/- A reader of bytes: event. -/
import Derived.Test.YtffdglhjfpnbpaaWRWait
import Derived.Deep.DeepCutAuto
import Derived.RegionTactic
namespace Go.Proofs.Ytffdglhjfpnbpaa.WEvent
open Go Go.RowKit Go.Proofs.Ytffdglhjfpnbpaa.WMod Go.Proofs.Ytffdglhjfpnbpaa.WUMod Go.Proofs.Ytffdglhjfpnbpaa.Opn Go.Proofs.Ytffdglhjfpnbpaa.Hp Go.Proofs.Ytffdglhjfpnbpaa.Rd Go.Proofs.Ytffdglhjfpnbpaa.WWrong Go.Proofs.Ytffdglhjfpnbpaa.WWait Go.Proofs.Ytffdglhjfpnbpaa.WPack Go.Proofs.Ytffdglhjfpnbpaa.WLow
set_option linter.unusedVariables false

theorem rat_alloc {w : World} {g : Nat} {s : ByteArray} {p st : Nat} (h : RAt w g s p st) (o : Obj) : RAt (w.alloc o).drew g s p st := by
  unfold RAt
  show (w.alloc o).heap[g]? = _
  rw [Below.heap_alloc _ _ _ (lt_of h)]
  exact h

theorem row_alloc {w : World} {r : Nat} {x : Obj} (h : w.heap[r]? = some x) (o : Obj) : (w.alloc o).drew.heap[r]? = some x := by
  show (w.alloc o).heap[r]? = _
  rw [Below.heap_alloc _ _ _ (lt_of h)]
  exact h

theorem grown_row {a b : World} {g k : Nat} {o : Obj} (h : a.grownBy b (some g)) (hk : a.heap[k]? = some o) (hne : k ≠ g) : b.heap[k]? = some o := by
  rw [h.block k (lt_of hk) (by simpa using hne)]
  exact hk

theorem evw {k d x y s1 : Nat} (hk : s1 / 16 = k) (hd : s1 % 16 = d) : ∀ x' y' : Nat, (some (x, y) : Option (Nat × Nat)) = some (x', y') → (k : Int) = ((s1 / 16 : Nat) : Int) ∧ (d : Int) = ((s1 % 16 : Nat) : Int) ∧ (x : Int) = x' ∧ (y : Int) = y' := by
  rintro x' y' h
  simp only [Option.some.injEq, Prod.mk.injEq] at h
  obtain ⟨rfl, rfl⟩ := h
  subst hk hd
  exact ⟨rfl, rfl, rfl, rfl⟩

/-- What event answers: the event without its time, if there is one. -/
def EvPost (R : Nat × Nat × Option (Nat × Nat)) (g : Nat) (s : ByteArray) (w : World) (e : Ending) (w' : World) : Prop :=
  (∃ k c a b : Int, e = .returned (.tuple #[.agg #[.int .i64 0, .int .i64 k, .int .i64 c, .int .i64 a, .int .i64 b], .bool R.2.2.isSome]) ∧ (∀ x y : Nat, R.2.2 = some (x, y) → k = ((R.2.1 / 16 : Nat) : Int) ∧ c = ((R.2.1 % 16 : Nat) : Int) ∧ a = x ∧ b = y)) ∧
  Hid (RAt w' g s R.1 R.2.1) ∧ Hid (w.grownBy w' (some g))

theorem rat_other {w : World} {g : Nat} {s : ByteArray} {p st : Nat} (h : RAt w g s p st) {a : Addr} (hn : g ≠ a.block) (v : Value) : RAt (w.setCell a v) g s p st := by
  unfold RAt
  rw [set_other hn]
  exact h

theorem rat_both {w : World} {g : Nat} {s : ByteArray} {p st : Nat} (h : RAt w g s p st) (c q : Nat) : RAt ((w.setCell ⟨g, 2, none⟩ (.int .i64 (c : Int))).setCell ⟨g, 1, none⟩ (.int .i64 (q : Int))) g s q c := by
  unfold RAt
  have h1 : (w.setCell ⟨g, 2, none⟩ (.int .i64 (c : Int))).heap[g]? = some (.cells #[.string s, .int .i64 p, .int .i64 c] 45 (0, 0)) := by
    rw [set_self (w := w) (b := g) (o := 2) h]
    rfl
  rw [set_self (b := g) (o := 1) h1]
  rfl

set_option maxHeartbeats 2000000 in
set_option maxRecDepth 100000 in
theorem event_calls (g : Nat) (s : ByteArray) (p st : Nat) (w : World) (h : RAt w g s p st) (hp : p ≤ s.size) (hs : s.size ≤ 140737488355328) (hst : st < 256) :
    Calls Try.prog 20 #[.pointer (some ⟨g, 0, none⟩)] w fun e w' => EvPost (eventP (bl s) st p) g s w e w' := by
  obtain ⟨R, hR⟩ : ∃ R, eventP (bl s) st p = R := ⟨_, rfl⟩
  have HR := Lib.hid hR.symm
  rw [hR]
  have hgl := lt_of h
  have HA : Hid (RAt (w.alloc (.cells #[.int .i64 0, .int .i64 0, .int .i64 0, .int .i64 0, .int .i64 0] 36)) g s p st) := by unfold Hid RAt; rw [Below.heap_alloc _ _ _ hgl]; exact h
  clear hR h
  go_enter Try.func20, Try.ntmps20
  go_upto_region 1 with fail
  obtain ⟨r, hr⟩ : ∃ r, w.heap.size = r := ⟨_, rfl⟩
  obtain ⟨w1, hw1⟩ : ∃ w1, w.alloc (.cells #[.int .i64 0, .int .i64 0, .int .i64 0, .int .i64 0, .int .i64 0] 36) = w1 := ⟨_, rfl⟩
  have hrow : w1.heap[r]? = some (.cells #[.int .i64 0, .int .i64 0, .int .i64 0, .int .i64 0, .int .i64 0] 36 (0, 0)) := by
    rw [← hw1, ← hr]; exact heap_alloc_new _ _
  have HROW := Lib.hid hrow
  have HG1 : Hid (w.grownBy w1 none) := by rw [← hw1]; exact grown_alloc (grown_refl _ _) _
  rw [hw1] at HA
  rw [hr] at hgl
  simp only [hr, hw1]
  clear hrow hw1
  have e0 : w1.cell? ⟨r, 0, none⟩ = some (.int .i64 0) := cell_of HROW.out 0
  have e1 : w1.cell? ⟨r, 1, none⟩ = some (.int .i64 0) := cell_of HROW.out 1
  have e2 : w1.cell? ⟨r, 2, none⟩ = some (.int .i64 0) := cell_of HROW.out 2
  have e3 : w1.cell? ⟨r, 3, none⟩ = some (.int .i64 0) := cell_of HROW.out 3
  have e4 : w1.cell? ⟨r, 4, none⟩ = some (.int .i64 0) := cell_of HROW.out 4
  have f0 : w1.frozen? ⟨r, 0, none⟩ = false := free_of HROW.out 0
  have f1 : w1.frozen? ⟨r, 1, none⟩ = false := free_of HROW.out 1
  have f2 : w1.frozen? ⟨r, 2, none⟩ = false := free_of HROW.out 2
  have f3 : w1.frozen? ⟨r, 3, none⟩ = false := free_of HROW.out 3
  have f4 : w1.frozen? ⟨r, 4, none⟩ = false := free_of HROW.out 4
  have k1 : w1.frozen? ⟨g, 1, none⟩ = false := free_of HA.out 1
  have k2 : w1.frozen? ⟨g, 2, none⟩ = false := free_of HA.out 2
  have c0 : w1.cell? ⟨g, 0, none⟩ = some (.string s) := cell_of HA.out 0
  have c1 : w1.cell? ⟨g, 1, none⟩ = some (.int .i64 p) := cell_of HA.out 1
  have c2 : w1.cell? ⟨g, 2, none⟩ = some (.int .i64 st) := cell_of HA.out 2
  go_cut [29] (fun c wx => c = .bool (decide (p < s.size ∧ 127 < (bl s).getD p 0)) ∧ ∃ n, wx = w1.drewN n)
  case first =>
    by_cases h1 : p < s.size
    · have g1 := bl_get h1
      have g2 : (bl s).getD p 0 = s[p].toNat := by rw [List.getD_eq_getElem?_getD, g1]; rfl
      have h2 : decide ((p : Int) < (s.size : Int)) = true := by simp; omega
      obtain ⟨c, hc⟩ : ∃ c, s[p].toNat = c := ⟨_, rfl⟩
      rw [hc] at g2
      obtain ⟨B, hB⟩ : ∃ B, decide ((127 : Int) < (c : Int)) = B := ⟨_, rfl⟩
      have hB2 : B = decide (p < s.size ∧ 127 < (bl s).getD p 0) := by rw [← hB, g2]; exact decide_eq_decide.2 ⟨fun h => ⟨h1, by omega⟩, fun h => by omega⟩
      have HB := Lib.hid hB2
      clear hB2 g1 g2
      go_quiet (fail)
      go_wp2_with fail
      go_meet
      exact ⟨by rw [HB.out], _, rfl⟩
    · have h2 : decide ((p : Int) < (s.size : Int)) = false := by simp; omega
      have HB : Hid (false = decide (p < s.size ∧ 127 < (bl s).getD p 0)) := by unfold Hid; simp; omega
      go_quiet (fail)
      go_wp2_with fail
      go_meet
      exact ⟨by rw [HB.out], _, rfl⟩
  case rest =>
    obtain ⟨rfl, n0, rfl⟩ := hcut
    by_cases hb : p < s.size ∧ 127 < (bl s).getD p 0
    · simp only [hb, and_self, decide_true]
      obtain ⟨h1, h2⟩ := hb
      have g1 := bl_get h1
      have g2 : (bl s).getD p 0 = s[p].toNat := by rw [List.getD_eq_getElem?_getD, g1]; rfl
      rw [g2] at h2
      clear g2
      obtain ⟨c, hc⟩ : ∃ c, s[p].toNat = c := ⟨_, rfl⟩
      have hc8 : c < 256 := by rw [← hc]; exact s[p].toNat_lt
      rw [hc] at g1 h2
      have hd := data_calls ((c / 16 : Nat) : Int)
      by_cases hd0 : dataN ((c / 16 : Nat) : Int) = 0
      · have HX : Hid (R = (p, st, none)) := by
          unfold Hid
          rw [HR.out]
          unfold eventP statP
          rw [g1]
          simp only
          rw [if_pos h2, if_pos (.inl hd0)]
        rw [hd0] at hd
        have HD := Lib.hid hd
        clear HR hd hd0 g1
        go_wp2_with fail
        go_quiet (fail)
        go_wp2_with (go_at_call 15; refine (HD.out _).mono ?_; rintro e w9 ⟨rfl, rfl⟩)
        refine bodyPost_ret (v := .tuple #[.agg #[.int .i64 0, .int .i64 0, .int .i64 0, .int .i64 0, .int .i64 0], .bool false]) (by simp [results, Try.results20, go_sem, e0, e1, e2, e3, e4]) rfl ?_
        rw [HX.out]
        refine ⟨⟨0, 0, 0, 0, rfl, fun x y h => by cases h⟩, ?_, ?_⟩
        · unfold Hid
          (with_reducible repeat refine rat_other ?_ (Nat.ne_of_lt hgl) _)
          exact HA.out
        · unfold Hid
          (with_reducible repeat refine grown_set ?_ (.inr (Nat.le_of_eq hr)) _)
          exact grown_drewN (grown_none HG1.out _) _
      · by_cases hcs : c = st
        · have HX : Hid (R = (p, st, none)) := by
            unfold Hid
            rw [HR.out]
            unfold eventP statP
            rw [g1]
            simp only
            rw [if_pos h2, if_pos (.inr hcs)]
          have HD := Lib.hid hd
          subst hcs
          have hd1 : (dataN ((c / 16 : Nat) : Int) == 0) = false := by simpa using hd0
          clear HR hd g1
          go_wp2_with fail
          go_quiet (fail)
          go_wp2_with (go_at_call 15; refine (HD.out _).mono ?_; rintro e w9 ⟨rfl, rfl⟩)
          refine bodyPost_ret (v := .tuple #[.agg #[.int .i64 0, .int .i64 0, .int .i64 0, .int .i64 0, .int .i64 0], .bool false]) (by simp [results, Try.results20, go_sem, e0, e1, e2, e3, e4]) rfl ?_
          rw [HX.out]
          refine ⟨⟨0, 0, 0, 0, rfl, fun x y h => by cases h⟩, ?_, ?_⟩
          · unfold Hid
            (with_reducible repeat refine rat_other ?_ (Nat.ne_of_lt hgl) _)
            exact HA.out
          · unfold Hid
            (with_reducible repeat refine grown_set ?_ (.inr (Nat.le_of_eq hr)) _)
            exact grown_drewN (grown_none HG1.out _) _
        · have HE : Hid (statP (bl s) st p = (p + 1, some c)) := by
            unfold Hid statP
            rw [g1]
            simp only
            rw [if_pos h2, if_neg (by simp only [not_or]; exact ⟨hd0, hcs⟩)]
          have HD := Lib.hid hd
          have hd1 : (dataN ((c / 16 : Nat) : Int) == 0) = false := by simpa using hd0
          have hcs1 : ((c : Int) == (st : Int)) = false := by rw [beq_eq_false_iff_ne]; omega
          clear hd g1
          go_wp2_with fail
          go_quiet (fail)
          go_upto_region 7 with (go_at_call 15; refine (HD.out _).mono ?_; rintro e w9 ⟨rfl, rfl⟩)
          obtain ⟨w2, hw2⟩ : ∃ w2, ((w1.drewN (n0 + nq)).setCell ⟨g, 2, none⟩ (.int .i64 (c : Int))).setCell ⟨g, 1, none⟩ (.int .i64 ((p : Int) + 1)) = w2 := ⟨_, rfl⟩
          have HA2 : Hid (RAt w2 g s (p + 1) c) := by rw [← hw2]; exact rat_both (rat_drewN HA.out _) _ _
          have HG2 : Hid (w.grownBy w2 (some g)) := by rw [← hw2]; exact grown_set (p := ⟨g, 1, none⟩) (grown_set (p := ⟨g, 2, none⟩) (grown_drewN (grown_none HG1.out (some g)) _) (.inl rfl) _) (.inl rfl) _
          have HROW2 : Hid (w2.heap[r]? = some (.cells #[.int .i64 0, .int .i64 0, .int .i64 0, .int .i64 0, .int .i64 0] 36 (0, 0))) := by rw [← hw2]; exact by rw [set_other (Nat.ne_of_gt hgl), set_other (Nat.ne_of_gt hgl)]; exact HROW.out
          have hr2 : r < w2.heap.size := lt_of HROW2.out
          rw [hw2]
          clear hw2 c0 c1 c2 e0 e1 e2 e3 e4 f0 f1 f2 f3 f4 k1 k2
          have c2 : w2.cell? ⟨g, 2, none⟩ = some (.int .i64 c) := cell_of HA2.out 2
          have hg2 : g < w2.heap.size := lt_of HA2.out
          obtain ⟨d, hd16⟩ : ∃ d, c % 16 = d := ⟨_, rfl⟩
          obtain ⟨k, hk16⟩ : ∃ k, c / 16 = k := ⟨_, rfl⟩
          have hk17 : k < 16 := by omega
          have hd17 : d < 16 := by omega
          have HK := Lib.hid hk16
          have HDD := Lib.hid hd16
          have hand : bits .and .i64 (c : Int) 15 = (d : Int) := by rw [← hd16]; exact and_i64 c 4 (by omega) (by decide)
          have hdiv : (c : Int) / 16 = (k : Int) := by rw [← hk16]; rfl
          clear hd16 hk16
          go_cut [5] (fun v5 wx => ∃ h, v5 = .pointer (some ⟨h, 0, none⟩) ∧ r < h ∧ Hid (RAt wx g s (p + 1) c) ∧ Hid (w.grownBy wx (some g)) ∧ Hid (wx.heap[r]? = some (.cells #[.int .i64 0, .int .i64 0, .int .i64 0, .int .i64 0, .int .i64 0] 36 (0, 0))) ∧ Hid (wx.heap[h]? = some (.cells #[.int .i64 0, .int .i64 k, .int .i64 d, .int .i64 0, .int .i64 0] 36 (0, 0))))
          case first =>
            go_region
            all_goals
              go_wp2_with fail
              go_meet
              exact ⟨w2.heap.size, rfl, hr2, rat_alloc HA2.out _, grown_drew (grown_alloc HG2.out _), row_alloc HROW2.out _, heap_alloc_new _ _⟩
          case rest =>
            obtain ⟨h, rfl, hrh, HA3, HG3, HROW3, HEV3⟩ := hcut
            clear c2 hr2 hg2 hand hdiv
            have r0 : wc.cell? ⟨r, 0, none⟩ = some (.int .i64 0) := cell_of HROW3.out 0
            have r1 : wc.cell? ⟨r, 1, none⟩ = some (.int .i64 0) := cell_of HROW3.out 1
            have r2 : wc.cell? ⟨r, 2, none⟩ = some (.int .i64 0) := cell_of HROW3.out 2
            have r3 : wc.cell? ⟨r, 3, none⟩ = some (.int .i64 0) := cell_of HROW3.out 3
            have r4 : wc.cell? ⟨r, 4, none⟩ = some (.int .i64 0) := cell_of HROW3.out 4
            have rf0 : wc.frozen? ⟨r, 0, none⟩ = false := free_of HROW3.out 0
            have rf1 : wc.frozen? ⟨r, 1, none⟩ = false := free_of HROW3.out 1
            have rf2 : wc.frozen? ⟨r, 2, none⟩ = false := free_of HROW3.out 2
            have rf3 : wc.frozen? ⟨r, 3, none⟩ = false := free_of HROW3.out 3
            have rf4 : wc.frozen? ⟨r, 4, none⟩ = false := free_of HROW3.out 4
            have h0 : wc.cell? ⟨h, 0, none⟩ = some (.int .i64 0) := cell_of HEV3.out 0
            have h1 : wc.cell? ⟨h, 1, none⟩ = some (.int .i64 k) := cell_of HEV3.out 1
            have h2 : wc.cell? ⟨h, 2, none⟩ = some (.int .i64 d) := cell_of HEV3.out 2
            have h3 : wc.cell? ⟨h, 3, none⟩ = some (.int .i64 0) := cell_of HEV3.out 3
            have h4 : wc.cell? ⟨h, 4, none⟩ = some (.int .i64 0) := cell_of HEV3.out 4
            have hf0 : wc.frozen? ⟨h, 0, none⟩ = false := free_of HEV3.out 0
            have hf1 : wc.frozen? ⟨h, 1, none⟩ = false := free_of HEV3.out 1
            have hf2 : wc.frozen? ⟨h, 2, none⟩ = false := free_of HEV3.out 2
            have hf3 : wc.frozen? ⟨h, 3, none⟩ = false := free_of HEV3.out 3
            have hf4 : wc.frozen? ⟨h, 4, none⟩ = false := free_of HEV3.out 4
            have hdk := data_calls (k : Int)
            obtain ⟨dn, hdn⟩ : ∃ dn, dataN (k : Int) = dn := ⟨_, rfl⟩
            have hdn3 : dn = 0 ∨ dn = 1 ∨ dn = 2 := by
              rw [← hdn]
              unfold dataN
              split
              · omega
              · split <;> omega
            rw [hdn] at hdk
            have HDK := Lib.hid hdk
            have HE2 : Hid (R = if dn = 0 then ((p + 1), c, none) else match lowP (bl s) (p + 1) with
                  | (q1, none) => (q1, c, none)
                  | (q1, some x) => if dn = 2 then (match lowP (bl s) q1 with
                      | (q2, none) => (q2, c, none)
                      | (q2, some y) => (q2, c, some (x, y))) else (q1, c, some (x, 0))) := by
              unfold Hid
              rw [HR.out]
              unfold eventP
              rw [HE.out]
              simp only
              rw [HK.out, hdn]
              rfl
            clear hdk hdn HR HE
            have hq : (p + 1) ≤ s.size := by omega
            by_cases hd0 : dn = 0
            · have HX : Hid (R = ((p + 1), c, none)) := by unfold Hid; rw [HE2.out, if_pos hd0]
              subst hd0
              clear HE2 hdn3
              go_wp2_with (go_at_call 15; refine (HDK.out _).mono ?_; rintro e w9 ⟨rfl, rfl⟩)
              refine bodyPost_ret (v := .tuple #[.agg #[.int .i64 0, .int .i64 0, .int .i64 0, .int .i64 0, .int .i64 0], .bool false]) (by simp [results, Try.results20, go_sem, r0, r1, r2, r3, r4]) rfl ?_
              rw [HX.out]
              refine ⟨⟨0, 0, 0, 0, rfl, fun x y h => by cases h⟩, ?_, ?_⟩
              · unfold Hid
                (with_reducible repeat refine rat_other ?_ (by dsimp only; omega) _)
                exact HA3.out
              · unfold Hid
                (with_reducible repeat refine grown_set ?_ (.inr (by dsimp only; omega)) _)
                exact HG3.out
            have L1 := Lib.hid (low_calls g s (p + 1) c wc HA3.out hq hs)
            have HLL : ∀ x q1, lowP (bl s) (p + 1) = (q1, some x) → q1 ≤ s.size := fun x q1 h => by have := (lowP_le h).2.1; rw [bl_len] at this; exact this
            obtain ⟨⟨q1, o1⟩, hl1⟩ : ∃ L, lowP (bl s) (p + 1) = L := ⟨_, rfl⟩
            rw [hl1] at L1 HE2 HLL
            simp only at L1 HE2
            cases o1 with
            | none =>
              have HX : Hid (R = (q1, c, none)) := by unfold Hid; rw [HE2.out, if_neg hd0]
              clear HE2 HLL hl1
              have hd1 : (dn == 0) = false := by simpa using hd0
              simp only [optV, Option.getD_none, Option.isSome_none] at L1
              go_wp2_with (first
                | (go_at_call 15; refine (HDK.out _).mono ?_; rintro e w9 ⟨rfl, rfl⟩)
                | (go_at_call 22; refine (L1.out).mono ?_; rintro e w4 ⟨rfl, HA4, HG4⟩; have HROW4 := Lib.hid (grown_row HG4.out HROW3.out (by omega)); have HEV4 := Lib.hid (grown_row HG4.out HEV3.out (by omega)); have p0 : w4.cell? ⟨r, 0, none⟩ = some (.int .i64 0) := cell_of HROW4.out 0; have p1 : w4.cell? ⟨r, 1, none⟩ = some (.int .i64 0) := cell_of HROW4.out 1; have p2 : w4.cell? ⟨r, 2, none⟩ = some (.int .i64 0) := cell_of HROW4.out 2; have p3 : w4.cell? ⟨r, 3, none⟩ = some (.int .i64 0) := cell_of HROW4.out 3; have p4 : w4.cell? ⟨r, 4, none⟩ = some (.int .i64 0) := cell_of HROW4.out 4; have pf0 : w4.frozen? ⟨r, 0, none⟩ = false := free_of HROW4.out 0; have pf1 : w4.frozen? ⟨r, 1, none⟩ = false := free_of HROW4.out 1; have pf2 : w4.frozen? ⟨r, 2, none⟩ = false := free_of HROW4.out 2; have pf3 : w4.frozen? ⟨r, 3, none⟩ = false := free_of HROW4.out 3; have pf4 : w4.frozen? ⟨r, 4, none⟩ = false := free_of HROW4.out 4; have z0 : w4.cell? ⟨h, 0, none⟩ = some (.int .i64 0) := cell_of HEV4.out 0; have z1 : w4.cell? ⟨h, 1, none⟩ = some (.int .i64 k) := cell_of HEV4.out 1; have z2 : w4.cell? ⟨h, 2, none⟩ = some (.int .i64 d) := cell_of HEV4.out 2; have z3 : w4.cell? ⟨h, 3, none⟩ = some (.int .i64 0) := cell_of HEV4.out 3; have z4 : w4.cell? ⟨h, 4, none⟩ = some (.int .i64 0) := cell_of HEV4.out 4; have zf0 : w4.frozen? ⟨h, 0, none⟩ = false := free_of HEV4.out 0; have zf1 : w4.frozen? ⟨h, 1, none⟩ = false := free_of HEV4.out 1; have zf2 : w4.frozen? ⟨h, 2, none⟩ = false := free_of HEV4.out 2; have zf3 : w4.frozen? ⟨h, 3, none⟩ = false := free_of HEV4.out 3; have zf4 : w4.frozen? ⟨h, 4, none⟩ = false := free_of HEV4.out 4))
              refine bodyPost_ret (v := .tuple #[.agg #[.int .i64 0, .int .i64 k, .int .i64 d, .int .i64 0, .int .i64 0], .bool false]) (by simp [results, Try.results20, go_sem, p0, p1, p2, p3, p4]) rfl ?_
              rw [HX.out]
              refine ⟨⟨k, d, 0, 0, rfl, fun x y h => by cases h⟩, ?_, ?_⟩
              · unfold Hid
                (with_reducible repeat refine rat_other ?_ (by dsimp only; omega) _)
                exact HA4.out
              · unfold Hid
                (with_reducible repeat refine grown_set ?_ (.inr (by dsimp only; omega)) _)
                exact grown_trans HG3.out HG4.out
            | some x =>
              have hq1 := HLL x q1 rfl
              clear HLL
              simp only [optV, Option.getD_some, Option.isSome_some] at L1
              by_cases hd2 : dn = 2
              · subst hd2
                clear hdn3
                go_upto_region 13 with (first
                  | (go_at_call 15; refine (HDK.out _).mono ?_; rintro e w9 ⟨rfl, rfl⟩)
                  | (go_at_call 22; refine (L1.out).mono ?_; rintro e w4 ⟨rfl, HA4, HG4⟩; have HROW4 := Lib.hid (grown_row HG4.out HROW3.out (by omega)); have HEV4 := Lib.hid (grown_row HG4.out HEV3.out (by omega)); have p0 : w4.cell? ⟨r, 0, none⟩ = some (.int .i64 0) := cell_of HROW4.out 0; have p1 : w4.cell? ⟨r, 1, none⟩ = some (.int .i64 0) := cell_of HROW4.out 1; have p2 : w4.cell? ⟨r, 2, none⟩ = some (.int .i64 0) := cell_of HROW4.out 2; have p3 : w4.cell? ⟨r, 3, none⟩ = some (.int .i64 0) := cell_of HROW4.out 3; have p4 : w4.cell? ⟨r, 4, none⟩ = some (.int .i64 0) := cell_of HROW4.out 4; have pf0 : w4.frozen? ⟨r, 0, none⟩ = false := free_of HROW4.out 0; have pf1 : w4.frozen? ⟨r, 1, none⟩ = false := free_of HROW4.out 1; have pf2 : w4.frozen? ⟨r, 2, none⟩ = false := free_of HROW4.out 2; have pf3 : w4.frozen? ⟨r, 3, none⟩ = false := free_of HROW4.out 3; have pf4 : w4.frozen? ⟨r, 4, none⟩ = false := free_of HROW4.out 4; have z0 : w4.cell? ⟨h, 0, none⟩ = some (.int .i64 0) := cell_of HEV4.out 0; have z1 : w4.cell? ⟨h, 1, none⟩ = some (.int .i64 k) := cell_of HEV4.out 1; have z2 : w4.cell? ⟨h, 2, none⟩ = some (.int .i64 d) := cell_of HEV4.out 2; have z3 : w4.cell? ⟨h, 3, none⟩ = some (.int .i64 0) := cell_of HEV4.out 3; have z4 : w4.cell? ⟨h, 4, none⟩ = some (.int .i64 0) := cell_of HEV4.out 4; have zf0 : w4.frozen? ⟨h, 0, none⟩ = false := free_of HEV4.out 0; have zf1 : w4.frozen? ⟨h, 1, none⟩ = false := free_of HEV4.out 1; have zf2 : w4.frozen? ⟨h, 2, none⟩ = false := free_of HEV4.out 2; have zf3 : w4.frozen? ⟨h, 3, none⟩ = false := free_of HEV4.out 3; have zf4 : w4.frozen? ⟨h, 4, none⟩ = false := free_of HEV4.out 4))
                have L2 := Lib.hid (low_calls g s q1 c (w4.setCell ⟨h, 3, none⟩ (.int .i64 (x : Int))) (rat_other HA4.out (by dsimp only; omega) _) hq1 hs)
                have HEV5 : Hid ((w4.setCell ⟨h, 3, none⟩ (.int .i64 (x : Int))).heap[h]? = some (.cells #[.int .i64 0, .int .i64 k, .int .i64 d, .int .i64 x, .int .i64 0] 36 (0, 0))) := by
                  unfold Hid
                  rw [set_self (w := w4) (b := h) (o := 3) HEV4.out]
                  rfl
                have HROW5 : Hid ((w4.setCell ⟨h, 3, none⟩ (.int .i64 (x : Int))).heap[r]? = some (.cells #[.int .i64 0, .int .i64 0, .int .i64 0, .int .i64 0, .int .i64 0] 36 (0, 0))) := by
                  unfold Hid
                  rw [set_other (by dsimp only; omega)]
                  exact HROW4.out
                have HG5 : Hid (w.grownBy (w4.setCell ⟨h, 3, none⟩ (.int .i64 (x : Int))) (some g)) := grown_set (grown_trans HG3.out HG4.out) (.inr (by dsimp only; omega)) _
                obtain ⟨⟨q2, o2⟩, hl2⟩ : ∃ L, lowP (bl s) q1 = L := ⟨_, rfl⟩
                rw [hl2] at L2 HE2
                simp only at L2 HE2
                rw [if_neg (by decide), if_pos trivial] at HE2
                clear hl1 hl2
                cases o2 with
                | none =>
                  have HX : Hid (R = (q2, c, none)) := HE2
                  clear HE2
                  simp only [optV, Option.getD_none, Option.isSome_none] at L2
                  go_wp2_with (go_at_call 22; refine (L2.out).mono ?_; rintro e w6 ⟨rfl, HA6, HG6⟩; have HROW6 := Lib.hid (grown_row HG6.out HROW5.out (by omega)); have HEV6 := Lib.hid (grown_row HG6.out HEV5.out (by omega)); clear p0 pf0 z0 zf0 r0 rf0 h0 hf0 p1 pf1 z1 zf1 r1 rf1 h1 hf1 p2 pf2 z2 zf2 r2 rf2 h2 hf2 p3 pf3 z3 zf3 r3 rf3 h3 hf3 p4 pf4 z4 zf4 r4 rf4 h4 hf4; have r0 : w6.cell? ⟨r, 0, none⟩ = some (.int .i64 0) := cell_of HROW6.out 0; have r1 : w6.cell? ⟨r, 1, none⟩ = some (.int .i64 0) := cell_of HROW6.out 1; have r2 : w6.cell? ⟨r, 2, none⟩ = some (.int .i64 0) := cell_of HROW6.out 2; have r3 : w6.cell? ⟨r, 3, none⟩ = some (.int .i64 0) := cell_of HROW6.out 3; have r4 : w6.cell? ⟨r, 4, none⟩ = some (.int .i64 0) := cell_of HROW6.out 4; have rf0 : w6.frozen? ⟨r, 0, none⟩ = false := free_of HROW6.out 0; have rf1 : w6.frozen? ⟨r, 1, none⟩ = false := free_of HROW6.out 1; have rf2 : w6.frozen? ⟨r, 2, none⟩ = false := free_of HROW6.out 2; have rf3 : w6.frozen? ⟨r, 3, none⟩ = false := free_of HROW6.out 3; have rf4 : w6.frozen? ⟨r, 4, none⟩ = false := free_of HROW6.out 4; have h0 : w6.cell? ⟨h, 0, none⟩ = some (.int .i64 0) := cell_of HEV6.out 0; have h1 : w6.cell? ⟨h, 1, none⟩ = some (.int .i64 k) := cell_of HEV6.out 1; have h2 : w6.cell? ⟨h, 2, none⟩ = some (.int .i64 d) := cell_of HEV6.out 2; have h3 : w6.cell? ⟨h, 3, none⟩ = some (.int .i64 x) := cell_of HEV6.out 3; have h4 : w6.cell? ⟨h, 4, none⟩ = some (.int .i64 0) := cell_of HEV6.out 4; have hf0 : w6.frozen? ⟨h, 0, none⟩ = false := free_of HEV6.out 0; have hf1 : w6.frozen? ⟨h, 1, none⟩ = false := free_of HEV6.out 1; have hf2 : w6.frozen? ⟨h, 2, none⟩ = false := free_of HEV6.out 2; have hf3 : w6.frozen? ⟨h, 3, none⟩ = false := free_of HEV6.out 3; have hf4 : w6.frozen? ⟨h, 4, none⟩ = false := free_of HEV6.out 4)
                  refine bodyPost_ret (v := .tuple #[.agg #[.int .i64 0, .int .i64 k, .int .i64 d, .int .i64 x, .int .i64 0], .bool false]) (by simp [results, Try.results20, go_sem, r0, r1, r2, r3, r4]) rfl ?_
                  rw [HX.out]
                  refine ⟨⟨k, d, x, 0, rfl, fun x y h => by cases h⟩, ?_, ?_⟩
                  · unfold Hid
                    (with_reducible repeat refine rat_other ?_ (by dsimp only; omega) _)
                    exact HA6.out
                  · unfold Hid
                    (with_reducible repeat refine grown_set ?_ (.inr (by dsimp only; omega)) _)
                    exact grown_trans HG5.out HG6.out
                | some y =>
                  have HX : Hid (R = (q2, c, some (x, y))) := HE2
                  clear HE2
                  simp only [optV, Option.getD_some, Option.isSome_some] at L2
                  go_wp2_with (go_at_call 22; refine (L2.out).mono ?_; rintro e w6 ⟨rfl, HA6, HG6⟩; have HROW6 := Lib.hid (grown_row HG6.out HROW5.out (by omega)); have HEV6 := Lib.hid (grown_row HG6.out HEV5.out (by omega)); clear p0 pf0 z0 zf0 r0 rf0 h0 hf0 p1 pf1 z1 zf1 r1 rf1 h1 hf1 p2 pf2 z2 zf2 r2 rf2 h2 hf2 p3 pf3 z3 zf3 r3 rf3 h3 hf3 p4 pf4 z4 zf4 r4 rf4 h4 hf4; have r0 : w6.cell? ⟨r, 0, none⟩ = some (.int .i64 0) := cell_of HROW6.out 0; have r1 : w6.cell? ⟨r, 1, none⟩ = some (.int .i64 0) := cell_of HROW6.out 1; have r2 : w6.cell? ⟨r, 2, none⟩ = some (.int .i64 0) := cell_of HROW6.out 2; have r3 : w6.cell? ⟨r, 3, none⟩ = some (.int .i64 0) := cell_of HROW6.out 3; have r4 : w6.cell? ⟨r, 4, none⟩ = some (.int .i64 0) := cell_of HROW6.out 4; have rf0 : w6.frozen? ⟨r, 0, none⟩ = false := free_of HROW6.out 0; have rf1 : w6.frozen? ⟨r, 1, none⟩ = false := free_of HROW6.out 1; have rf2 : w6.frozen? ⟨r, 2, none⟩ = false := free_of HROW6.out 2; have rf3 : w6.frozen? ⟨r, 3, none⟩ = false := free_of HROW6.out 3; have rf4 : w6.frozen? ⟨r, 4, none⟩ = false := free_of HROW6.out 4; have h0 : w6.cell? ⟨h, 0, none⟩ = some (.int .i64 0) := cell_of HEV6.out 0; have h1 : w6.cell? ⟨h, 1, none⟩ = some (.int .i64 k) := cell_of HEV6.out 1; have h2 : w6.cell? ⟨h, 2, none⟩ = some (.int .i64 d) := cell_of HEV6.out 2; have h3 : w6.cell? ⟨h, 3, none⟩ = some (.int .i64 x) := cell_of HEV6.out 3; have h4 : w6.cell? ⟨h, 4, none⟩ = some (.int .i64 0) := cell_of HEV6.out 4; have hf0 : w6.frozen? ⟨h, 0, none⟩ = false := free_of HEV6.out 0; have hf1 : w6.frozen? ⟨h, 1, none⟩ = false := free_of HEV6.out 1; have hf2 : w6.frozen? ⟨h, 2, none⟩ = false := free_of HEV6.out 2; have hf3 : w6.frozen? ⟨h, 3, none⟩ = false := free_of HEV6.out 3; have hf4 : w6.frozen? ⟨h, 4, none⟩ = false := free_of HEV6.out 4)
                  refine bodyPost_ret (v := .tuple #[.agg #[.int .i64 0, .int .i64 k, .int .i64 d, .int .i64 x, .int .i64 y], .bool true]) (by simp [results, Try.results20, go_sem, r0, r1, r2, r3, r4]) rfl ?_
                  rw [HX.out]
                  refine ⟨⟨k, d, x, y, rfl, evw HK.out HDD.out⟩, ?_, ?_⟩
                  · unfold Hid
                    (with_reducible repeat refine rat_other ?_ (by dsimp only; omega) _)
                    exact HA6.out
                  · unfold Hid
                    (with_reducible repeat refine grown_set ?_ (.inr (by dsimp only; omega)) _)
                    exact grown_trans HG5.out HG6.out
              · have hd3 : dn = 1 := by omega
                have HX : Hid (R = (q1, c, some (x, 0))) := by unfold Hid; rw [HE2.out]; simp only; rw [if_neg hd0, if_neg hd2]
                subst hd3
                clear hdn3 HE2 hl1
                go_wp2_with (first
                  | (go_at_call 15; refine (HDK.out _).mono ?_; rintro e w9 ⟨rfl, rfl⟩)
                  | (go_at_call 22; refine (L1.out).mono ?_; rintro e w4 ⟨rfl, HA4, HG4⟩; have HROW4 := Lib.hid (grown_row HG4.out HROW3.out (by omega)); have HEV4 := Lib.hid (grown_row HG4.out HEV3.out (by omega)); have p0 : w4.cell? ⟨r, 0, none⟩ = some (.int .i64 0) := cell_of HROW4.out 0; have p1 : w4.cell? ⟨r, 1, none⟩ = some (.int .i64 0) := cell_of HROW4.out 1; have p2 : w4.cell? ⟨r, 2, none⟩ = some (.int .i64 0) := cell_of HROW4.out 2; have p3 : w4.cell? ⟨r, 3, none⟩ = some (.int .i64 0) := cell_of HROW4.out 3; have p4 : w4.cell? ⟨r, 4, none⟩ = some (.int .i64 0) := cell_of HROW4.out 4; have pf0 : w4.frozen? ⟨r, 0, none⟩ = false := free_of HROW4.out 0; have pf1 : w4.frozen? ⟨r, 1, none⟩ = false := free_of HROW4.out 1; have pf2 : w4.frozen? ⟨r, 2, none⟩ = false := free_of HROW4.out 2; have pf3 : w4.frozen? ⟨r, 3, none⟩ = false := free_of HROW4.out 3; have pf4 : w4.frozen? ⟨r, 4, none⟩ = false := free_of HROW4.out 4; have z0 : w4.cell? ⟨h, 0, none⟩ = some (.int .i64 0) := cell_of HEV4.out 0; have z1 : w4.cell? ⟨h, 1, none⟩ = some (.int .i64 k) := cell_of HEV4.out 1; have z2 : w4.cell? ⟨h, 2, none⟩ = some (.int .i64 d) := cell_of HEV4.out 2; have z3 : w4.cell? ⟨h, 3, none⟩ = some (.int .i64 0) := cell_of HEV4.out 3; have z4 : w4.cell? ⟨h, 4, none⟩ = some (.int .i64 0) := cell_of HEV4.out 4; have zf0 : w4.frozen? ⟨h, 0, none⟩ = false := free_of HEV4.out 0; have zf1 : w4.frozen? ⟨h, 1, none⟩ = false := free_of HEV4.out 1; have zf2 : w4.frozen? ⟨h, 2, none⟩ = false := free_of HEV4.out 2; have zf3 : w4.frozen? ⟨h, 3, none⟩ = false := free_of HEV4.out 3; have zf4 : w4.frozen? ⟨h, 4, none⟩ = false := free_of HEV4.out 4))
                refine bodyPost_ret (v := .tuple #[.agg #[.int .i64 0, .int .i64 k, .int .i64 d, .int .i64 x, .int .i64 0], .bool true]) (by simp [results, Try.results20, go_sem, p0, p1, p2, p3, p4]) rfl ?_
                rw [HX.out]
                refine ⟨⟨k, d, x, 0, rfl, evw HK.out HDD.out⟩, ?_, ?_⟩
                · unfold Hid
                  (with_reducible repeat refine rat_other ?_ (by dsimp only; omega) _)
                  exact HA4.out
                · unfold Hid
                  (with_reducible repeat refine grown_set ?_ (.inr (by dsimp only; omega)) _)
                  exact grown_trans HG3.out HG4.out
    · simp only [hb, decide_false]
      have HE : Hid (statP (bl s) st p = (p, some st)) := by
        unfold Hid statP
        rcases Nat.lt_or_ge p s.size with h1 | h1
        · have g1 := bl_get h1
          have g2 : (bl s).getD p 0 = s[p].toNat := by rw [List.getD_eq_getElem?_getD, g1]; rfl
          rw [g2] at hb
          rw [g1]
          simp only
          rw [if_neg (fun h => hb ⟨h1, h⟩)]
        · rw [bl_none h1]
      clear hb
      go_upto_region 7 with fail
      obtain ⟨w2, hw2⟩ : ∃ w2, w1.drewN (n0) = w2 := ⟨_, rfl⟩
      have HA2 : Hid (RAt w2 g s p st) := by rw [← hw2]; exact HA.out
      have HG2 : Hid (w.grownBy w2 (some g)) := by rw [← hw2]; exact grown_drewN (grown_none HG1.out _) _
      have HROW2 : Hid (w2.heap[r]? = some (.cells #[.int .i64 0, .int .i64 0, .int .i64 0, .int .i64 0, .int .i64 0] 36 (0, 0))) := by rw [← hw2]; exact HROW.out
      have hr2 : r < w2.heap.size := lt_of HROW2.out
      rw [hw2]
      clear hw2 c0 c1 c2 e0 e1 e2 e3 e4 f0 f1 f2 f3 f4 k1 k2
      have c2 : w2.cell? ⟨g, 2, none⟩ = some (.int .i64 st) := cell_of HA2.out 2
      have hg2 : g < w2.heap.size := lt_of HA2.out
      obtain ⟨d, hd16⟩ : ∃ d, st % 16 = d := ⟨_, rfl⟩
      obtain ⟨k, hk16⟩ : ∃ k, st / 16 = k := ⟨_, rfl⟩
      have hk17 : k < 16 := by omega
      have hd17 : d < 16 := by omega
      have HK := Lib.hid hk16
      have HDD := Lib.hid hd16
      have hand : bits .and .i64 (st : Int) 15 = (d : Int) := by rw [← hd16]; exact and_i64 st 4 (by omega) (by decide)
      have hdiv : (st : Int) / 16 = (k : Int) := by rw [← hk16]; rfl
      clear hd16 hk16
      go_cut [5] (fun v5 wx => ∃ h, v5 = .pointer (some ⟨h, 0, none⟩) ∧ r < h ∧ Hid (RAt wx g s p st) ∧ Hid (w.grownBy wx (some g)) ∧ Hid (wx.heap[r]? = some (.cells #[.int .i64 0, .int .i64 0, .int .i64 0, .int .i64 0, .int .i64 0] 36 (0, 0))) ∧ Hid (wx.heap[h]? = some (.cells #[.int .i64 0, .int .i64 k, .int .i64 d, .int .i64 0, .int .i64 0] 36 (0, 0))))
      case first =>
        go_region
        all_goals
          go_wp2_with fail
          go_meet
          exact ⟨w2.heap.size, rfl, hr2, rat_alloc HA2.out _, grown_drew (grown_alloc HG2.out _), row_alloc HROW2.out _, heap_alloc_new _ _⟩
      case rest =>
        obtain ⟨h, rfl, hrh, HA3, HG3, HROW3, HEV3⟩ := hcut
        clear c2 hr2 hg2 hand hdiv
        have r0 : wc.cell? ⟨r, 0, none⟩ = some (.int .i64 0) := cell_of HROW3.out 0
        have r1 : wc.cell? ⟨r, 1, none⟩ = some (.int .i64 0) := cell_of HROW3.out 1
        have r2 : wc.cell? ⟨r, 2, none⟩ = some (.int .i64 0) := cell_of HROW3.out 2
        have r3 : wc.cell? ⟨r, 3, none⟩ = some (.int .i64 0) := cell_of HROW3.out 3
        have r4 : wc.cell? ⟨r, 4, none⟩ = some (.int .i64 0) := cell_of HROW3.out 4
        have rf0 : wc.frozen? ⟨r, 0, none⟩ = false := free_of HROW3.out 0
        have rf1 : wc.frozen? ⟨r, 1, none⟩ = false := free_of HROW3.out 1
        have rf2 : wc.frozen? ⟨r, 2, none⟩ = false := free_of HROW3.out 2
        have rf3 : wc.frozen? ⟨r, 3, none⟩ = false := free_of HROW3.out 3
        have rf4 : wc.frozen? ⟨r, 4, none⟩ = false := free_of HROW3.out 4
        have h0 : wc.cell? ⟨h, 0, none⟩ = some (.int .i64 0) := cell_of HEV3.out 0
        have h1 : wc.cell? ⟨h, 1, none⟩ = some (.int .i64 k) := cell_of HEV3.out 1
        have h2 : wc.cell? ⟨h, 2, none⟩ = some (.int .i64 d) := cell_of HEV3.out 2
        have h3 : wc.cell? ⟨h, 3, none⟩ = some (.int .i64 0) := cell_of HEV3.out 3
        have h4 : wc.cell? ⟨h, 4, none⟩ = some (.int .i64 0) := cell_of HEV3.out 4
        have hf0 : wc.frozen? ⟨h, 0, none⟩ = false := free_of HEV3.out 0
        have hf1 : wc.frozen? ⟨h, 1, none⟩ = false := free_of HEV3.out 1
        have hf2 : wc.frozen? ⟨h, 2, none⟩ = false := free_of HEV3.out 2
        have hf3 : wc.frozen? ⟨h, 3, none⟩ = false := free_of HEV3.out 3
        have hf4 : wc.frozen? ⟨h, 4, none⟩ = false := free_of HEV3.out 4
        have hdk := data_calls (k : Int)
        obtain ⟨dn, hdn⟩ : ∃ dn, dataN (k : Int) = dn := ⟨_, rfl⟩
        have hdn3 : dn = 0 ∨ dn = 1 ∨ dn = 2 := by
          rw [← hdn]
          unfold dataN
          split
          · omega
          · split <;> omega
        rw [hdn] at hdk
        have HDK := Lib.hid hdk
        have HE2 : Hid (R = if dn = 0 then (p, st, none) else match lowP (bl s) p with
              | (q1, none) => (q1, st, none)
              | (q1, some x) => if dn = 2 then (match lowP (bl s) q1 with
                  | (q2, none) => (q2, st, none)
                  | (q2, some y) => (q2, st, some (x, y))) else (q1, st, some (x, 0))) := by
          unfold Hid
          rw [HR.out]
          unfold eventP
          rw [HE.out]
          simp only
          rw [HK.out, hdn]
          rfl
        clear hdk hdn HR HE
        have hq : p ≤ s.size := by omega
        by_cases hd0 : dn = 0
        · have HX : Hid (R = (p, st, none)) := by unfold Hid; rw [HE2.out, if_pos hd0]
          subst hd0
          clear HE2 hdn3
          go_wp2_with (go_at_call 15; refine (HDK.out _).mono ?_; rintro e w9 ⟨rfl, rfl⟩)
          refine bodyPost_ret (v := .tuple #[.agg #[.int .i64 0, .int .i64 0, .int .i64 0, .int .i64 0, .int .i64 0], .bool false]) (by simp [results, Try.results20, go_sem, r0, r1, r2, r3, r4]) rfl ?_
          rw [HX.out]
          refine ⟨⟨0, 0, 0, 0, rfl, fun x y h => by cases h⟩, ?_, ?_⟩
          · unfold Hid
            (with_reducible repeat refine rat_other ?_ (by dsimp only; omega) _)
            exact HA3.out
          · unfold Hid
            (with_reducible repeat refine grown_set ?_ (.inr (by dsimp only; omega)) _)
            exact HG3.out
        have L1 := Lib.hid (low_calls g s p st wc HA3.out hq hs)
        have HLL : ∀ x q1, lowP (bl s) p = (q1, some x) → q1 ≤ s.size := fun x q1 h => by have := (lowP_le h).2.1; rw [bl_len] at this; exact this
        obtain ⟨⟨q1, o1⟩, hl1⟩ : ∃ L, lowP (bl s) p = L := ⟨_, rfl⟩
        rw [hl1] at L1 HE2 HLL
        simp only at L1 HE2
        cases o1 with
        | none =>
          have HX : Hid (R = (q1, st, none)) := by unfold Hid; rw [HE2.out, if_neg hd0]
          clear HE2 HLL hl1
          have hd1 : (dn == 0) = false := by simpa using hd0
          simp only [optV, Option.getD_none, Option.isSome_none] at L1
          go_wp2_with (first
            | (go_at_call 15; refine (HDK.out _).mono ?_; rintro e w9 ⟨rfl, rfl⟩)
            | (go_at_call 22; refine (L1.out).mono ?_; rintro e w4 ⟨rfl, HA4, HG4⟩; have HROW4 := Lib.hid (grown_row HG4.out HROW3.out (by omega)); have HEV4 := Lib.hid (grown_row HG4.out HEV3.out (by omega)); have p0 : w4.cell? ⟨r, 0, none⟩ = some (.int .i64 0) := cell_of HROW4.out 0; have p1 : w4.cell? ⟨r, 1, none⟩ = some (.int .i64 0) := cell_of HROW4.out 1; have p2 : w4.cell? ⟨r, 2, none⟩ = some (.int .i64 0) := cell_of HROW4.out 2; have p3 : w4.cell? ⟨r, 3, none⟩ = some (.int .i64 0) := cell_of HROW4.out 3; have p4 : w4.cell? ⟨r, 4, none⟩ = some (.int .i64 0) := cell_of HROW4.out 4; have pf0 : w4.frozen? ⟨r, 0, none⟩ = false := free_of HROW4.out 0; have pf1 : w4.frozen? ⟨r, 1, none⟩ = false := free_of HROW4.out 1; have pf2 : w4.frozen? ⟨r, 2, none⟩ = false := free_of HROW4.out 2; have pf3 : w4.frozen? ⟨r, 3, none⟩ = false := free_of HROW4.out 3; have pf4 : w4.frozen? ⟨r, 4, none⟩ = false := free_of HROW4.out 4; have z0 : w4.cell? ⟨h, 0, none⟩ = some (.int .i64 0) := cell_of HEV4.out 0; have z1 : w4.cell? ⟨h, 1, none⟩ = some (.int .i64 k) := cell_of HEV4.out 1; have z2 : w4.cell? ⟨h, 2, none⟩ = some (.int .i64 d) := cell_of HEV4.out 2; have z3 : w4.cell? ⟨h, 3, none⟩ = some (.int .i64 0) := cell_of HEV4.out 3; have z4 : w4.cell? ⟨h, 4, none⟩ = some (.int .i64 0) := cell_of HEV4.out 4; have zf0 : w4.frozen? ⟨h, 0, none⟩ = false := free_of HEV4.out 0; have zf1 : w4.frozen? ⟨h, 1, none⟩ = false := free_of HEV4.out 1; have zf2 : w4.frozen? ⟨h, 2, none⟩ = false := free_of HEV4.out 2; have zf3 : w4.frozen? ⟨h, 3, none⟩ = false := free_of HEV4.out 3; have zf4 : w4.frozen? ⟨h, 4, none⟩ = false := free_of HEV4.out 4))
          refine bodyPost_ret (v := .tuple #[.agg #[.int .i64 0, .int .i64 k, .int .i64 d, .int .i64 0, .int .i64 0], .bool false]) (by simp [results, Try.results20, go_sem, p0, p1, p2, p3, p4]) rfl ?_
          rw [HX.out]
          refine ⟨⟨k, d, 0, 0, rfl, fun x y h => by cases h⟩, ?_, ?_⟩
          · unfold Hid
            (with_reducible repeat refine rat_other ?_ (by dsimp only; omega) _)
            exact HA4.out
          · unfold Hid
            (with_reducible repeat refine grown_set ?_ (.inr (by dsimp only; omega)) _)
            exact grown_trans HG3.out HG4.out
        | some x =>
          have hq1 := HLL x q1 rfl
          clear HLL
          simp only [optV, Option.getD_some, Option.isSome_some] at L1
          by_cases hd2 : dn = 2
          · subst hd2
            clear hdn3
            go_upto_region 13 with (first
              | (go_at_call 15; refine (HDK.out _).mono ?_; rintro e w9 ⟨rfl, rfl⟩)
              | (go_at_call 22; refine (L1.out).mono ?_; rintro e w4 ⟨rfl, HA4, HG4⟩; have HROW4 := Lib.hid (grown_row HG4.out HROW3.out (by omega)); have HEV4 := Lib.hid (grown_row HG4.out HEV3.out (by omega)); have p0 : w4.cell? ⟨r, 0, none⟩ = some (.int .i64 0) := cell_of HROW4.out 0; have p1 : w4.cell? ⟨r, 1, none⟩ = some (.int .i64 0) := cell_of HROW4.out 1; have p2 : w4.cell? ⟨r, 2, none⟩ = some (.int .i64 0) := cell_of HROW4.out 2; have p3 : w4.cell? ⟨r, 3, none⟩ = some (.int .i64 0) := cell_of HROW4.out 3; have p4 : w4.cell? ⟨r, 4, none⟩ = some (.int .i64 0) := cell_of HROW4.out 4; have pf0 : w4.frozen? ⟨r, 0, none⟩ = false := free_of HROW4.out 0; have pf1 : w4.frozen? ⟨r, 1, none⟩ = false := free_of HROW4.out 1; have pf2 : w4.frozen? ⟨r, 2, none⟩ = false := free_of HROW4.out 2; have pf3 : w4.frozen? ⟨r, 3, none⟩ = false := free_of HROW4.out 3; have pf4 : w4.frozen? ⟨r, 4, none⟩ = false := free_of HROW4.out 4; have z0 : w4.cell? ⟨h, 0, none⟩ = some (.int .i64 0) := cell_of HEV4.out 0; have z1 : w4.cell? ⟨h, 1, none⟩ = some (.int .i64 k) := cell_of HEV4.out 1; have z2 : w4.cell? ⟨h, 2, none⟩ = some (.int .i64 d) := cell_of HEV4.out 2; have z3 : w4.cell? ⟨h, 3, none⟩ = some (.int .i64 0) := cell_of HEV4.out 3; have z4 : w4.cell? ⟨h, 4, none⟩ = some (.int .i64 0) := cell_of HEV4.out 4; have zf0 : w4.frozen? ⟨h, 0, none⟩ = false := free_of HEV4.out 0; have zf1 : w4.frozen? ⟨h, 1, none⟩ = false := free_of HEV4.out 1; have zf2 : w4.frozen? ⟨h, 2, none⟩ = false := free_of HEV4.out 2; have zf3 : w4.frozen? ⟨h, 3, none⟩ = false := free_of HEV4.out 3; have zf4 : w4.frozen? ⟨h, 4, none⟩ = false := free_of HEV4.out 4))
            have L2 := Lib.hid (low_calls g s q1 st (w4.setCell ⟨h, 3, none⟩ (.int .i64 (x : Int))) (rat_other HA4.out (by dsimp only; omega) _) hq1 hs)
            have HEV5 : Hid ((w4.setCell ⟨h, 3, none⟩ (.int .i64 (x : Int))).heap[h]? = some (.cells #[.int .i64 0, .int .i64 k, .int .i64 d, .int .i64 x, .int .i64 0] 36 (0, 0))) := by
              unfold Hid
              rw [set_self (w := w4) (b := h) (o := 3) HEV4.out]
              rfl
            have HROW5 : Hid ((w4.setCell ⟨h, 3, none⟩ (.int .i64 (x : Int))).heap[r]? = some (.cells #[.int .i64 0, .int .i64 0, .int .i64 0, .int .i64 0, .int .i64 0] 36 (0, 0))) := by
              unfold Hid
              rw [set_other (by dsimp only; omega)]
              exact HROW4.out
            have HG5 : Hid (w.grownBy (w4.setCell ⟨h, 3, none⟩ (.int .i64 (x : Int))) (some g)) := grown_set (grown_trans HG3.out HG4.out) (.inr (by dsimp only; omega)) _
            obtain ⟨⟨q2, o2⟩, hl2⟩ : ∃ L, lowP (bl s) q1 = L := ⟨_, rfl⟩
            rw [hl2] at L2 HE2
            simp only at L2 HE2
            rw [if_neg (by decide), if_pos trivial] at HE2
            clear hl1 hl2
            cases o2 with
            | none =>
              have HX : Hid (R = (q2, st, none)) := HE2
              clear HE2
              simp only [optV, Option.getD_none, Option.isSome_none] at L2
              go_wp2_with (go_at_call 22; refine (L2.out).mono ?_; rintro e w6 ⟨rfl, HA6, HG6⟩; have HROW6 := Lib.hid (grown_row HG6.out HROW5.out (by omega)); have HEV6 := Lib.hid (grown_row HG6.out HEV5.out (by omega)); clear p0 pf0 z0 zf0 r0 rf0 h0 hf0 p1 pf1 z1 zf1 r1 rf1 h1 hf1 p2 pf2 z2 zf2 r2 rf2 h2 hf2 p3 pf3 z3 zf3 r3 rf3 h3 hf3 p4 pf4 z4 zf4 r4 rf4 h4 hf4; have r0 : w6.cell? ⟨r, 0, none⟩ = some (.int .i64 0) := cell_of HROW6.out 0; have r1 : w6.cell? ⟨r, 1, none⟩ = some (.int .i64 0) := cell_of HROW6.out 1; have r2 : w6.cell? ⟨r, 2, none⟩ = some (.int .i64 0) := cell_of HROW6.out 2; have r3 : w6.cell? ⟨r, 3, none⟩ = some (.int .i64 0) := cell_of HROW6.out 3; have r4 : w6.cell? ⟨r, 4, none⟩ = some (.int .i64 0) := cell_of HROW6.out 4; have rf0 : w6.frozen? ⟨r, 0, none⟩ = false := free_of HROW6.out 0; have rf1 : w6.frozen? ⟨r, 1, none⟩ = false := free_of HROW6.out 1; have rf2 : w6.frozen? ⟨r, 2, none⟩ = false := free_of HROW6.out 2; have rf3 : w6.frozen? ⟨r, 3, none⟩ = false := free_of HROW6.out 3; have rf4 : w6.frozen? ⟨r, 4, none⟩ = false := free_of HROW6.out 4; have h0 : w6.cell? ⟨h, 0, none⟩ = some (.int .i64 0) := cell_of HEV6.out 0; have h1 : w6.cell? ⟨h, 1, none⟩ = some (.int .i64 k) := cell_of HEV6.out 1; have h2 : w6.cell? ⟨h, 2, none⟩ = some (.int .i64 d) := cell_of HEV6.out 2; have h3 : w6.cell? ⟨h, 3, none⟩ = some (.int .i64 x) := cell_of HEV6.out 3; have h4 : w6.cell? ⟨h, 4, none⟩ = some (.int .i64 0) := cell_of HEV6.out 4; have hf0 : w6.frozen? ⟨h, 0, none⟩ = false := free_of HEV6.out 0; have hf1 : w6.frozen? ⟨h, 1, none⟩ = false := free_of HEV6.out 1; have hf2 : w6.frozen? ⟨h, 2, none⟩ = false := free_of HEV6.out 2; have hf3 : w6.frozen? ⟨h, 3, none⟩ = false := free_of HEV6.out 3; have hf4 : w6.frozen? ⟨h, 4, none⟩ = false := free_of HEV6.out 4)
              refine bodyPost_ret (v := .tuple #[.agg #[.int .i64 0, .int .i64 k, .int .i64 d, .int .i64 x, .int .i64 0], .bool false]) (by simp [results, Try.results20, go_sem, r0, r1, r2, r3, r4]) rfl ?_
              rw [HX.out]
              refine ⟨⟨k, d, x, 0, rfl, fun x y h => by cases h⟩, ?_, ?_⟩
              · unfold Hid
                (with_reducible repeat refine rat_other ?_ (by dsimp only; omega) _)
                exact HA6.out
              · unfold Hid
                (with_reducible repeat refine grown_set ?_ (.inr (by dsimp only; omega)) _)
                exact grown_trans HG5.out HG6.out
            | some y =>
              have HX : Hid (R = (q2, st, some (x, y))) := HE2
              clear HE2
              simp only [optV, Option.getD_some, Option.isSome_some] at L2
              go_wp2_with (go_at_call 22; refine (L2.out).mono ?_; rintro e w6 ⟨rfl, HA6, HG6⟩; have HROW6 := Lib.hid (grown_row HG6.out HROW5.out (by omega)); have HEV6 := Lib.hid (grown_row HG6.out HEV5.out (by omega)); clear p0 pf0 z0 zf0 r0 rf0 h0 hf0 p1 pf1 z1 zf1 r1 rf1 h1 hf1 p2 pf2 z2 zf2 r2 rf2 h2 hf2 p3 pf3 z3 zf3 r3 rf3 h3 hf3 p4 pf4 z4 zf4 r4 rf4 h4 hf4; have r0 : w6.cell? ⟨r, 0, none⟩ = some (.int .i64 0) := cell_of HROW6.out 0; have r1 : w6.cell? ⟨r, 1, none⟩ = some (.int .i64 0) := cell_of HROW6.out 1; have r2 : w6.cell? ⟨r, 2, none⟩ = some (.int .i64 0) := cell_of HROW6.out 2; have r3 : w6.cell? ⟨r, 3, none⟩ = some (.int .i64 0) := cell_of HROW6.out 3; have r4 : w6.cell? ⟨r, 4, none⟩ = some (.int .i64 0) := cell_of HROW6.out 4; have rf0 : w6.frozen? ⟨r, 0, none⟩ = false := free_of HROW6.out 0; have rf1 : w6.frozen? ⟨r, 1, none⟩ = false := free_of HROW6.out 1; have rf2 : w6.frozen? ⟨r, 2, none⟩ = false := free_of HROW6.out 2; have rf3 : w6.frozen? ⟨r, 3, none⟩ = false := free_of HROW6.out 3; have rf4 : w6.frozen? ⟨r, 4, none⟩ = false := free_of HROW6.out 4; have h0 : w6.cell? ⟨h, 0, none⟩ = some (.int .i64 0) := cell_of HEV6.out 0; have h1 : w6.cell? ⟨h, 1, none⟩ = some (.int .i64 k) := cell_of HEV6.out 1; have h2 : w6.cell? ⟨h, 2, none⟩ = some (.int .i64 d) := cell_of HEV6.out 2; have h3 : w6.cell? ⟨h, 3, none⟩ = some (.int .i64 x) := cell_of HEV6.out 3; have h4 : w6.cell? ⟨h, 4, none⟩ = some (.int .i64 0) := cell_of HEV6.out 4; have hf0 : w6.frozen? ⟨h, 0, none⟩ = false := free_of HEV6.out 0; have hf1 : w6.frozen? ⟨h, 1, none⟩ = false := free_of HEV6.out 1; have hf2 : w6.frozen? ⟨h, 2, none⟩ = false := free_of HEV6.out 2; have hf3 : w6.frozen? ⟨h, 3, none⟩ = false := free_of HEV6.out 3; have hf4 : w6.frozen? ⟨h, 4, none⟩ = false := free_of HEV6.out 4)
              refine bodyPost_ret (v := .tuple #[.agg #[.int .i64 0, .int .i64 k, .int .i64 d, .int .i64 x, .int .i64 y], .bool true]) (by simp [results, Try.results20, go_sem, r0, r1, r2, r3, r4]) rfl ?_
              rw [HX.out]
              refine ⟨⟨k, d, x, y, rfl, evw HK.out HDD.out⟩, ?_, ?_⟩
              · unfold Hid
                (with_reducible repeat refine rat_other ?_ (by dsimp only; omega) _)
                exact HA6.out
              · unfold Hid
                (with_reducible repeat refine grown_set ?_ (.inr (by dsimp only; omega)) _)
                exact grown_trans HG5.out HG6.out
          · have hd3 : dn = 1 := by omega
            have HX : Hid (R = (q1, st, some (x, 0))) := by unfold Hid; rw [HE2.out]; simp only; rw [if_neg hd0, if_neg hd2]
            subst hd3
            clear hdn3 HE2 hl1
            go_wp2_with (first
              | (go_at_call 15; refine (HDK.out _).mono ?_; rintro e w9 ⟨rfl, rfl⟩)
              | (go_at_call 22; refine (L1.out).mono ?_; rintro e w4 ⟨rfl, HA4, HG4⟩; have HROW4 := Lib.hid (grown_row HG4.out HROW3.out (by omega)); have HEV4 := Lib.hid (grown_row HG4.out HEV3.out (by omega)); have p0 : w4.cell? ⟨r, 0, none⟩ = some (.int .i64 0) := cell_of HROW4.out 0; have p1 : w4.cell? ⟨r, 1, none⟩ = some (.int .i64 0) := cell_of HROW4.out 1; have p2 : w4.cell? ⟨r, 2, none⟩ = some (.int .i64 0) := cell_of HROW4.out 2; have p3 : w4.cell? ⟨r, 3, none⟩ = some (.int .i64 0) := cell_of HROW4.out 3; have p4 : w4.cell? ⟨r, 4, none⟩ = some (.int .i64 0) := cell_of HROW4.out 4; have pf0 : w4.frozen? ⟨r, 0, none⟩ = false := free_of HROW4.out 0; have pf1 : w4.frozen? ⟨r, 1, none⟩ = false := free_of HROW4.out 1; have pf2 : w4.frozen? ⟨r, 2, none⟩ = false := free_of HROW4.out 2; have pf3 : w4.frozen? ⟨r, 3, none⟩ = false := free_of HROW4.out 3; have pf4 : w4.frozen? ⟨r, 4, none⟩ = false := free_of HROW4.out 4; have z0 : w4.cell? ⟨h, 0, none⟩ = some (.int .i64 0) := cell_of HEV4.out 0; have z1 : w4.cell? ⟨h, 1, none⟩ = some (.int .i64 k) := cell_of HEV4.out 1; have z2 : w4.cell? ⟨h, 2, none⟩ = some (.int .i64 d) := cell_of HEV4.out 2; have z3 : w4.cell? ⟨h, 3, none⟩ = some (.int .i64 0) := cell_of HEV4.out 3; have z4 : w4.cell? ⟨h, 4, none⟩ = some (.int .i64 0) := cell_of HEV4.out 4; have zf0 : w4.frozen? ⟨h, 0, none⟩ = false := free_of HEV4.out 0; have zf1 : w4.frozen? ⟨h, 1, none⟩ = false := free_of HEV4.out 1; have zf2 : w4.frozen? ⟨h, 2, none⟩ = false := free_of HEV4.out 2; have zf3 : w4.frozen? ⟨h, 3, none⟩ = false := free_of HEV4.out 3; have zf4 : w4.frozen? ⟨h, 4, none⟩ = false := free_of HEV4.out 4))
            refine bodyPost_ret (v := .tuple #[.agg #[.int .i64 0, .int .i64 k, .int .i64 d, .int .i64 x, .int .i64 0], .bool true]) (by simp [results, Try.results20, go_sem, p0, p1, p2, p3, p4]) rfl ?_
            rw [HX.out]
            refine ⟨⟨k, d, x, 0, rfl, evw HK.out HDD.out⟩, ?_, ?_⟩
            · unfold Hid
              (with_reducible repeat refine rat_other ?_ (by dsimp only; omega) _)
              exact HA4.out
            · unfold Hid
              (with_reducible repeat refine grown_set ?_ (.inr (by dsimp only; omega)) _)
              exact grown_trans HG3.out HG4.out

end Go.Proofs.Ytffdglhjfpnbpaa.WEvent
