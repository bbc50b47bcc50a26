/- A reader of bytes: wait. -/
import Derived.Test.YtffdglhjfpnbpaaWLow
namespace Go.Proofs.Ytffdglhjfpnbpaa.WRWait
open Go Go.RowKit Go.Proofs.Ytffdglhjfpnbpaa.WMod Go.Proofs.Ytffdglhjfpnbpaa.WUMod Go.Proofs.Ytffdglhjfpnbpaa.Opn Go.Proofs.Ytffdglhjfpnbpaa.Hp Go.Proofs.Ytffdglhjfpnbpaa.Rd Go.Proofs.Ytffdglhjfpnbpaa.WWrong Go.Proofs.Ytffdglhjfpnbpaa.WWait Go.Proofs.Ytffdglhjfpnbpaa.WPack Go.Proofs.Ytffdglhjfpnbpaa.WLow
set_option linter.unusedVariables false

theorem or_i64 (n d : Nat) (hn : n < 2097152) (hd : d < 128) : bits .or .i64 ((n : Int) * 128) (d : Int) = ((n * 128 + d : Nat) : Int) := by
  unfold bits
  simp only
  have h0 : IntKind.i64.bits = 64 := rfl
  have e1 : ((BitVec.ofInt IntKind.i64.bits ((n : Int) * 128)) ||| (BitVec.ofInt IntKind.i64.bits (d : Int))).toNat = n * 128 + d := by
    rw [show ((n : Int) * 128) = ((n * 128 : Nat) : Int) from by omega, BitVec.toNat_or, BitVec.ofInt_natCast, BitVec.ofInt_natCast, BitVec.toNat_ofNat, BitVec.toNat_ofNat, h0, Nat.mod_eq_of_lt (a := n * 128) (by omega), Nat.mod_eq_of_lt (a := d) (by omega)]
    have := Nat.two_pow_add_eq_or_of_lt (i := 7) (b := d) (by omega) n
    rw [Nat.mul_comm n 128]
    exact this.symm
  rw [e1]
  generalize hq : n * 128 + d = q at *
  have hq2 : q < 268435456 := by omega
  unfold IntKind.wrap
  simp [IntKind.signed, IntKind.bits]
  omega

theorem waitP_zero (b : List Nat) (n p : Nat) : waitP b 0 n p = (p, none) := rfl

theorem waitP_none {b : List Nat} {n p : Nat} (f : Nat) (h : b[p]? = none) : waitP b f n p = (p, none) := by
  cases f with
  | zero => rfl
  | succ f => unfold waitP; rw [h]

theorem waitP_bad {b : List Nat} {f n p c : Nat} (h : b[p]? = some c) (hb : (f = 3 ∧ c = 128) ∨ (f = 0 ∧ 127 < c)) : waitP b (f + 1) n p = (p, none) := by
  unfold waitP; rw [h]; simp only; rw [if_pos hb]

theorem waitP_low {b : List Nat} {f n p c : Nat} (h : b[p]? = some c) (hb : ¬ ((f = 3 ∧ c = 128) ∨ (f = 0 ∧ 127 < c))) (hc : c < 128) : waitP b (f + 1) n p = (p + 1, some (n * 128 + c % 128)) := by
  unfold waitP; rw [h]; simp only; rw [if_neg hb, if_pos hc]

theorem waitP_on {b : List Nat} {f n p c : Nat} (h : b[p]? = some c) (hb : ¬ ((f = 3 ∧ c = 128) ∨ (f = 0 ∧ 127 < c))) (hc : ¬ c < 128) : waitP b (f + 1) n p = waitP b f (n * 128 + c % 128) (p + 1) := by
  conv => lhs; unfold waitP
  rw [h]; simp only; rw [if_neg hb, if_neg hc]

set_option maxHeartbeats 4000000 in
set_option maxRecDepth 100000 in
theorem rwait_calls (g : Nat) (s : ByteArray) (p0 st : Nat) (w : World) (h : RAt w g s p0 st) (hp : p0 ≤ s.size) (hs : s.size ≤ 140737488355328) :
    Calls Try.prog 19 #[.pointer (some ⟨g, 0, none⟩)] w fun e w' => e = .returned (optV (waitP (bl s) 4 0 p0).2) ∧ Hid (RAt w' g s (waitP (bl s) 4 0 p0).1 st) ∧ Hid (w.grownBy w' (some g)) := by
  obtain ⟨R, hR⟩ : ∃ R, waitP (bl s) 4 0 p0 = R := ⟨_, rfl⟩
  have HR0 : Hid (R = waitP (bl s) 4 0 p0) := hR.symm
  rw [hR]
  have H0 := Lib.hid h
  clear hR h
  go_enter Try.func19, Try.ntmps19
  go_wp2_with fail
  go_loopw [4, 5] (fun v i wr => ∃ k n p : Nat, k ≤ 4 ∧ p ≤ s.size ∧ i = .int .i64 (k : Int) ∧ v = .int .i64 (n : Int) ∧ Hid (n < 128 ^ k) ∧ Hid (R = waitP (bl s) (4 - k) n p) ∧ Hid (RAt wr g s p st) ∧ Hid (w.grownBy wr (some g))) (fun _ i _ => 4 - (intOf i).toNat)
  case atStart => exact ⟨0, 0, p0, by omega, hp, rfl, rfl, (by decide : (0 : Nat) < 128 ^ 0), HR0, H0, grown_refl _ _⟩
  case round =>
    clear HR0 H0 hp
    obtain ⟨k, n, p, hk, hp, rfl, rfl, HN, HR, HA, HG⟩ := hrel
    have c0 : wr.cell? ⟨g, 0, none⟩ = some (.string s) := cell_of HA.out 0
    have c1 : wr.cell? ⟨g, 1, none⟩ = some (.int .i64 p) := cell_of HA.out 1
    have fr : wr.frozen? ⟨g, 1, none⟩ = false := free_of HA.out 1
    by_cases hk4 : k = 4
    · subst hk4
      have HX : Hid (R = (p, none)) := HR.out.trans (waitP_zero _ _ _)
      clear HR
      go_wp2_with fail
      go_quiet (fail)
      go_wp2_with fail
      go_ret2
      exact ⟨by rw [HX.out]; rfl, by rw [HX.out]; exact HA.out, grown_drewN HG.out _⟩
    by_cases h1 : p = s.size
    · subst h1
      have HX : Hid (R = (s.size, none)) := HR.out.trans (waitP_none _ (bl_none (by omega)))
      have hk5 : decide ((k : Int) < 4) = true := by simp; omega
      clear HR
      go_wp2_with fail
      go_quiet (fail)
      go_wp2_with fail
      go_ret2
      exact ⟨by rw [HX.out]; rfl, by rw [HX.out]; exact HA.out, grown_drewN HG.out _⟩
    have hlt : p < s.size := by omega
    have hlti : decide ((p : Int) < (s.size : Int)) = true := by simp; omega
    have g1 := bl_get hlt
    obtain ⟨c, hc⟩ : ∃ c, s[p].toNat = c := ⟨_, rfl⟩
    have hc8 : c < 256 := by rw [← hc]; exact s[p].toNat_lt
    rw [hc] at g1
    have G1 := Lib.hid g1
    clear g1
    have hcase : k = 0 ∨ k = 1 ∨ k = 2 ∨ k = 3 := by omega
    rcases hcase with rfl | rfl | rfl | rfl
    · by_cases hc1 : c = 128
      · subst hc1
        have HX : Hid (R = (p, none)) := HR.out.trans (waitP_bad G1.out (by omega))
        clear HR
        go_wp2_with fail
        go_quiet (fail)
        go_wp2_with fail
        go_quiet (fail)
        go_wp2_with fail
        go_ret2
        exact ⟨by rw [HX.out]; rfl, by rw [HX.out]; exact HA.out, grown_drewN HG.out _⟩
      by_cases hc2 : c < 128
      · have f1 : ((c : Int) == 128) = false := by rw [beq_eq_false_iff_ne]; omega
        have f2 : decide ((127 : Int) < (c : Int)) = false := by simp; omega
        have f3 : decide ((c : Int) < 128) = true := by simp; omega
        have hx := HR.out.trans (waitP_low G1.out (by omega) (by omega))
        obtain ⟨d, hd⟩ : ∃ d, c % 128 = d := ⟨_, rfl⟩
        have hd8 : d < 128 := by omega
        have hand : bits .and .i64 (c : Int) 127 = (d : Int) := by rw [← hd]; exact and_i64 c 7 (by omega) (by decide)
        have hn : n < 1 := HN.out
        have hor := or_i64 n d (by omega) hd8
        obtain ⟨m, hm⟩ : ∃ m, n * 128 + d = m := ⟨_, rfl⟩
        have hm2 : m < 128 := by omega
        rw [hm] at hor
        rw [hd, hm] at hx
        have HX := Lib.hid hx
        clear HR hd hm hx
        go_wp2_with fail
        go_quiet (fail)
        go_wp2_with fail
        go_quiet (fail)
        go_wp2_with fail
        go_ret2
        exact ⟨by rw [HX.out]; rfl, by rw [HX.out]; exact rat_set HA.out _ _, grown_set (grown_drewN HG.out _) (.inl rfl) _⟩
      · have f1 : ((c : Int) == 128) = false := by rw [beq_eq_false_iff_ne]; omega
        have f2 : decide ((127 : Int) < (c : Int)) = true := by simp; omega
        have f3 : decide ((c : Int) < 128) = false := by simp; omega
        have hx := HR.out.trans (waitP_on G1.out (by omega) (by omega))
        obtain ⟨d, hd⟩ : ∃ d, c % 128 = d := ⟨_, rfl⟩
        have hd8 : d < 128 := by omega
        have hand : bits .and .i64 (c : Int) 127 = (d : Int) := by rw [← hd]; exact and_i64 c 7 (by omega) (by decide)
        have hn : n < 1 := HN.out
        have hor := or_i64 n d (by omega) hd8
        obtain ⟨m, hm⟩ : ∃ m, n * 128 + d = m := ⟨_, rfl⟩
        have hm2 : m < 128 := by omega
        rw [hm] at hor
        rw [hd, hm] at hx
        have HX := Lib.hid hx
        have HM : Hid (m < 128 ^ 1) := hm2
        clear HR hd hm hx
        go_wp2_with fail
        go_quiet (fail)
        go_wp2_with fail
        go_quiet (fail)
        go_wp2_with fail
        go_roundw
        case rel => exact ⟨1, m, p + 1, by omega, by omega, rfl, rfl, HM, HX, rat_set HA.out _ _, grown_set (grown_drewN HG.out _) (.inl rfl) _⟩
        case measure => simp [intOf]
    · by_cases hc2 : c < 128
      · have f1 : ((c : Int) == 128) = false := by rw [beq_eq_false_iff_ne]; omega
        have f2 : decide ((127 : Int) < (c : Int)) = false := by simp; omega
        have f3 : decide ((c : Int) < 128) = true := by simp; omega
        have hx := HR.out.trans (waitP_low G1.out (by omega) (by omega))
        obtain ⟨d, hd⟩ : ∃ d, c % 128 = d := ⟨_, rfl⟩
        have hd8 : d < 128 := by omega
        have hand : bits .and .i64 (c : Int) 127 = (d : Int) := by rw [← hd]; exact and_i64 c 7 (by omega) (by decide)
        have hn : n < 128 := HN.out
        have hor := or_i64 n d (by omega) hd8
        obtain ⟨m, hm⟩ : ∃ m, n * 128 + d = m := ⟨_, rfl⟩
        have hm2 : m < 16384 := by omega
        rw [hm] at hor
        rw [hd, hm] at hx
        have HX := Lib.hid hx
        clear HR hd hm hx
        go_wp2_with fail
        go_quiet (fail)
        go_wp2_with fail
        go_quiet (fail)
        go_wp2_with fail
        go_ret2
        exact ⟨by rw [HX.out]; rfl, by rw [HX.out]; exact rat_set HA.out _ _, grown_set (grown_drewN HG.out _) (.inl rfl) _⟩
      · have f2 : decide ((127 : Int) < (c : Int)) = true := by simp; omega
        have f3 : decide ((c : Int) < 128) = false := by simp; omega
        have hx := HR.out.trans (waitP_on G1.out (by omega) (by omega))
        obtain ⟨d, hd⟩ : ∃ d, c % 128 = d := ⟨_, rfl⟩
        have hd8 : d < 128 := by omega
        have hand : bits .and .i64 (c : Int) 127 = (d : Int) := by rw [← hd]; exact and_i64 c 7 (by omega) (by decide)
        have hn : n < 128 := HN.out
        have hor := or_i64 n d (by omega) hd8
        obtain ⟨m, hm⟩ : ∃ m, n * 128 + d = m := ⟨_, rfl⟩
        have hm2 : m < 16384 := by omega
        rw [hm] at hor
        rw [hd, hm] at hx
        have HX := Lib.hid hx
        have HM : Hid (m < 128 ^ 2) := hm2
        clear HR hd hm hx
        go_wp2_with fail
        go_quiet (fail)
        go_wp2_with fail
        go_quiet (fail)
        go_wp2_with fail
        go_roundw
        case rel => exact ⟨2, m, p + 1, by omega, by omega, rfl, rfl, HM, HX, rat_set HA.out _ _, grown_set (grown_drewN HG.out _) (.inl rfl) _⟩
        case measure => simp [intOf]
    · by_cases hc2 : c < 128
      · have f1 : ((c : Int) == 128) = false := by rw [beq_eq_false_iff_ne]; omega
        have f2 : decide ((127 : Int) < (c : Int)) = false := by simp; omega
        have f3 : decide ((c : Int) < 128) = true := by simp; omega
        have hx := HR.out.trans (waitP_low G1.out (by omega) (by omega))
        obtain ⟨d, hd⟩ : ∃ d, c % 128 = d := ⟨_, rfl⟩
        have hd8 : d < 128 := by omega
        have hand : bits .and .i64 (c : Int) 127 = (d : Int) := by rw [← hd]; exact and_i64 c 7 (by omega) (by decide)
        have hn : n < 16384 := HN.out
        have hor := or_i64 n d (by omega) hd8
        obtain ⟨m, hm⟩ : ∃ m, n * 128 + d = m := ⟨_, rfl⟩
        have hm2 : m < 2097152 := by omega
        rw [hm] at hor
        rw [hd, hm] at hx
        have HX := Lib.hid hx
        clear HR hd hm hx
        go_wp2_with fail
        go_quiet (fail)
        go_wp2_with fail
        go_quiet (fail)
        go_wp2_with fail
        go_ret2
        exact ⟨by rw [HX.out]; rfl, by rw [HX.out]; exact rat_set HA.out _ _, grown_set (grown_drewN HG.out _) (.inl rfl) _⟩
      · have f2 : decide ((127 : Int) < (c : Int)) = true := by simp; omega
        have f3 : decide ((c : Int) < 128) = false := by simp; omega
        have hx := HR.out.trans (waitP_on G1.out (by omega) (by omega))
        obtain ⟨d, hd⟩ : ∃ d, c % 128 = d := ⟨_, rfl⟩
        have hd8 : d < 128 := by omega
        have hand : bits .and .i64 (c : Int) 127 = (d : Int) := by rw [← hd]; exact and_i64 c 7 (by omega) (by decide)
        have hn : n < 16384 := HN.out
        have hor := or_i64 n d (by omega) hd8
        obtain ⟨m, hm⟩ : ∃ m, n * 128 + d = m := ⟨_, rfl⟩
        have hm2 : m < 2097152 := by omega
        rw [hm] at hor
        rw [hd, hm] at hx
        have HX := Lib.hid hx
        have HM : Hid (m < 128 ^ 3) := hm2
        clear HR hd hm hx
        go_wp2_with fail
        go_quiet (fail)
        go_wp2_with fail
        go_quiet (fail)
        go_wp2_with fail
        go_roundw
        case rel => exact ⟨3, m, p + 1, by omega, by omega, rfl, rfl, HM, HX, rat_set HA.out _ _, grown_set (grown_drewN HG.out _) (.inl rfl) _⟩
        case measure => simp [intOf]
    · by_cases hc2 : c < 128
      · have f1 : ((c : Int) == 128) = false := by rw [beq_eq_false_iff_ne]; omega
        have f2 : decide ((127 : Int) < (c : Int)) = false := by simp; omega
        have f3 : decide ((c : Int) < 128) = true := by simp; omega
        have hx := HR.out.trans (waitP_low G1.out (by omega) (by omega))
        obtain ⟨d, hd⟩ : ∃ d, c % 128 = d := ⟨_, rfl⟩
        have hd8 : d < 128 := by omega
        have hand : bits .and .i64 (c : Int) 127 = (d : Int) := by rw [← hd]; exact and_i64 c 7 (by omega) (by decide)
        have hn : n < 2097152 := HN.out
        have hor := or_i64 n d (by omega) hd8
        obtain ⟨m, hm⟩ : ∃ m, n * 128 + d = m := ⟨_, rfl⟩
        have hm2 : m < 268435456 := by omega
        rw [hm] at hor
        rw [hd, hm] at hx
        have HX := Lib.hid hx
        clear HR hd hm hx
        go_wp2_with fail
        go_quiet (fail)
        go_wp2_with fail
        go_quiet (fail)
        go_wp2_with fail
        go_ret2
        exact ⟨by rw [HX.out]; rfl, by rw [HX.out]; exact rat_set HA.out _ _, grown_set (grown_drewN HG.out _) (.inl rfl) _⟩
      · have f2 : decide ((127 : Int) < (c : Int)) = true := by simp; omega
        have f3 : decide ((c : Int) < 128) = false := by simp; omega
        have HX : Hid (R = (p, none)) := HR.out.trans (waitP_bad G1.out (by omega))
        clear HR
        go_wp2_with fail
        go_quiet (fail)
        go_wp2_with fail
        go_quiet (fail)
        go_wp2_with fail
        go_ret2
        exact ⟨by rw [HX.out]; rfl, by rw [HX.out]; exact HA.out, grown_drewN HG.out _⟩

end Go.Proofs.Ytffdglhjfpnbpaa.WRWait

