/- The reference's voice: how long it is since it began; Held. -/
import Derived.Test.YtadaegnkclleaaaVSing
namespace Go.Proofs.Ytadaegnkclleaaa.VHeld
open Go Ieee Go.RowKit Go.Proofs.Ytadaegnkclleaaa.VMod Go.Proofs.Ytadaegnkclleaaa.VWalk Go.Proofs.Ytadaegnkclleaaa.VLevel Go.Proofs.Ytadaegnkclleaaa.VRender Go.Proofs.Ytadaegnkclleaaa.VSing Go.Proofs.Ytadaegnkclleaaa.Hp Go.Proofs.Ytadaegnkclleaaa.Rd
set_option linter.unusedVariables false

def heldZ (p : Pt) (t : Int) : Int := if t < p.att then Int.tdiv (1048576 * t) p.att else if t < p.att + p.dec then 1048576 - Int.tdiv ((1048576 - p.sus) * (t - p.att)) p.dec else p.sus
def lvl (p : Pt) (t off : Int) : Int := if off < 0 then heldZ p t else if p.rel ≤ t - off then 0 else Int.tdiv (heldZ p off * (p.rel - (t - off))) p.rel

/-- Where the program's voice stands when so many samples are done, and where it was let go. -/
structure At (p : Pt) (s : St) (t : Nat) (off : Int) : Prop where
  phase : s.phase = t * p.step % 4294967296
  time : s.time = min (t : Int) 33554433
  off : (off = -1 ∧ s.off = -1) ∨ (∃ o : Nat, off = o ∧ o ≤ t ∧ s.off = min ((t : Int) - o) 16777217 ∧ s.from_ = heldZ p o)

theorem at_start (p : Pt) : At p st0 0 (-1) := ⟨by simp [st0], by simp [st0]; omega, .inl ⟨rfl, rfl⟩⟩

theorem at_next {p : Pt} {s : St} {t : Nat} {off : Int} (h : At p s t off) : At p (next p s) (t + 1) off := by
  obtain ⟨h1, h2, h3⟩ := h
  refine ⟨?_, ?_, ?_⟩
  · show (s.phase + p.step) % 4294967296 = _
    rw [h1, Nat.add_mul]
    omega
  · show (if s.time ≤ 33554432 then s.time + 1 else s.time) = _
    rw [h2]
    clear h3 h1
    split <;> omega
  · rcases h3 with ⟨a, b⟩ | ⟨o, a, b, c, d⟩
    · refine .inl ⟨a, ?_⟩
      show (if 0 ≤ s.off ∧ s.off ≤ 16777216 then s.off + 1 else s.off) = _
      rw [b, if_neg (by omega)]
    · refine .inr ⟨o, a, by omega, ?_, d⟩
      show (if 0 ≤ s.off ∧ s.off ≤ 16777216 then s.off + 1 else s.off) = _
      rw [c]
      split <;> omega

theorem at_level {p : Pt} {s : St} {t : Nat} {off : Int} (hp : OkP p) (h : At p s t off) : levelZ p s = lvl p t off := by
  obtain ⟨_, _, ⟨a0, a1⟩, ⟨d0, d1⟩, ⟨r0, r1⟩, s0, s1⟩ := hp
  obtain ⟨h1, h2, h3⟩ := h
  unfold levelZ
  rcases h3 with ⟨rfl, b⟩ | ⟨o, rfl, b, c, d⟩
  · rw [show lvl p t (-1) = heldZ p t from if_pos (by omega), b, if_neg (by omega), if_neg (by omega)]
    unfold heldZ
    rw [h2]
    by_cases c1 : (t : Int) < p.att
    · rw [if_pos (by omega), if_pos c1, show min (t : Int) 33554433 = t from by omega]
    · by_cases c2 : (t : Int) < p.att + p.dec
      · rw [if_neg (by omega), if_pos (by omega), if_neg c1, if_pos c2, show min (t : Int) 33554433 = t from by omega]
      · rw [if_neg (by omega), if_neg (by omega), if_neg c1, if_neg c2]
  · rw [c, d, show lvl p t o = if p.rel ≤ (t : Int) - o then 0 else Int.tdiv (heldZ p o * (p.rel - ((t : Int) - o))) p.rel from if_neg (by omega)]
    by_cases c1 : p.rel ≤ (t : Int) - o
    · rw [if_pos (by omega), if_pos c1]
    · rw [if_neg (by omega), if_pos (by omega), if_neg c1, show min ((t : Int) - o) 16777217 = t - o from by omega]

theorem at_off {p : Pt} {s : St} {t : Nat} {off : Int} (hp : OkP p) (h : At p s t off) : At p (offS p s) t (if off < 0 then (t : Int) else off) := by
  have hl := at_level hp h
  obtain ⟨h1, h2, h3⟩ := h
  rcases h3 with ⟨rfl, b⟩ | ⟨o, rfl, b, c, d⟩
  · unfold offS
    rw [if_pos (by omega), if_pos (by omega)]
    refine ⟨h1, h2, .inr ⟨t, rfl, Nat.le_refl _, by show (0 : Int) = _; omega, ?_⟩⟩
    show levelZ p s = _
    rw [hl]
    unfold lvl
    rw [if_pos (by omega)]
  · unfold offS
    rw [if_neg (by omega), if_neg (by omega)]
    exact ⟨h1, h2, .inr ⟨o, rfl, b, c, d⟩⟩

theorem at_after {p : Pt} {s : St} {t : Nat} {off : Int} (h : At p s t off) (k : Nat) : At p (after p k s) (t + k) off := by
  induction k with
  | zero => exact h
  | succ k ih => rw [after_succ]; exact at_next ih

theorem held_le {p : Pt} (hp : OkP p) {t : Int} (h : 0 ≤ t) : 0 ≤ heldZ p t ∧ heldZ p t ≤ 1048576 := by
  obtain ⟨_, _, ⟨a0, a1⟩, ⟨d0, d1⟩, ⟨r0, r1⟩, s0, s1⟩ := hp
  unfold heldZ
  split
  · refine tdiv_le (by omega) (by omega) ?_
    exact Int.mul_le_mul_of_nonneg_left (by omega) (by omega)
  · split
    · have := tdiv_le (a := (1048576 - p.sus) * (t - p.att)) (b := p.dec) (q := 1048576) (Int.mul_nonneg (by omega) (by omega)) (by omega) (Int.mul_le_mul (by omega) (by omega) (by omega) (by omega))
      omega
    · omega

set_option maxHeartbeats 2000000 in
set_option maxRecDepth 100000 in
theorem held_calls (p : Pt) (t : Int) (w : World) (hp : OkP p) (h0 : 0 ≤ t) (h1 : t ≤ 4611686018427387904) :
    Calls Try.prog 33 #[.agg #[.int .i64 p.shape, .int .u32 p.step, .float .f64 p.gain, .int .i64 p.att, .int .i64 p.dec, .int .i64 p.rel, .int .i64 p.sus], .int .i64 t] w fun e w' => e = .returned (.int .i64 (heldZ p t)) ∧ Hid (w.grownBy w' none) := by
  have hll := held_le hp h0
  obtain ⟨_, _, ⟨at0, at1⟩, ⟨d0, d1⟩, ⟨r0, r1⟩, s0, s1⟩ := hp
  obtain ⟨shape, step, gain, att, dec, rel, sus⟩ := p
  simp only at at0 at1 d0 d1 r0 r1 s0 s1
  have HGA : Hid (w.grownBy (w.alloc (.cells #[.int .i64 shape, .int .u32 step, .float .f64 gain, .int .i64 att, .int .i64 dec, .int .i64 rel, .int .i64 sus] 33)) none) := grown_alloc (grown_refl _ _) _
  obtain ⟨L, hL⟩ : ∃ L, heldZ ⟨shape, step, gain, att, dec, rel, sus⟩ t = L := ⟨_, rfl⟩
  have HL : Hid (L = if t < att then Int.tdiv (1048576 * t) att else if t < att + dec then 1048576 - Int.tdiv ((1048576 - sus) * (t - att)) dec else sus) := by unfold Hid; rw [← hL]; rfl
  rw [hL] at hll ⊢
  obtain ⟨l0, l1⟩ := hll
  clear hL
  by_cases h3 : t < att
  · have HX : Hid (L = Int.tdiv (1048576 * t) att) := by unfold Hid; rw [HL.out, if_pos h3]
    obtain ⟨m, hm⟩ : ∃ m, 1048576 * t = m := ⟨_, rfl⟩
    have q0 : 0 ≤ m := by omega
    have q1 : m ≤ 70368744177664 := by omega
    rw [hm] at HX
    have hX := HX.out.symm
    have hr0 : ¬ att = 0 := by omega
    have hr1 : (att == 0) = false := by simpa using hr0
    clear HL HX
    go_enter Try.func33, Try.ntmps33
    go_wp2_with fail
    go_ret
    exact ⟨rfl, HGA⟩
  by_cases h4 : t < att + dec
  · have HX : Hid (L = 1048576 - Int.tdiv ((1048576 - sus) * (t - att)) dec) := by unfold Hid; rw [HL.out, if_neg h3, if_pos h4]
    obtain ⟨q0, q1⟩ := mul_small (a := 1048576 - sus) (b := t - att) (by omega) (by omega) (by omega) (by omega)
    have q3 := tdiv_le (a := (1048576 - sus) * (t - att)) (b := dec) (q := 1048576) q0 (by omega) (Int.mul_le_mul (by omega) (by omega) (by omega) (by omega))
    have hdf0 : 0 ≤ t - att := by omega
    obtain ⟨df, hdf⟩ : ∃ m, t - att = m := ⟨_, rfl⟩
    obtain ⟨sf, hsf⟩ : ∃ m, 1048576 - sus = m := ⟨_, rfl⟩
    rw [hdf, hsf] at HX q0 q1 q3
    obtain ⟨m, hm⟩ : ∃ m, sf * df = m := ⟨_, rfl⟩
    rw [hm] at HX q0 q1 q3
    obtain ⟨u, hu⟩ : ∃ u, Int.tdiv m dec = u := ⟨_, rfl⟩
    rw [hu] at HX q3
    obtain ⟨q3, q4⟩ := q3
    have hX := HX.out.symm
    have hr0 : ¬ dec = 0 := by omega
    have hr1 : (dec == 0) = false := by simpa using hr0
    obtain ⟨ad, had⟩ : ∃ m, att + dec = m := ⟨_, rfl⟩
    have had2 : ad ≤ 33554432 := by omega
    have had3 : 0 ≤ ad := by omega
    rw [had] at h4
    clear HL HX
    go_enter Try.func33, Try.ntmps33
    go_wp2_with fail
    go_ret
    exact ⟨rfl, HGA⟩
  · have HX : Hid (L = sus) := by unfold Hid; rw [HL.out, if_neg h3, if_neg h4]
    obtain ⟨ad, had⟩ : ∃ m, att + dec = m := ⟨_, rfl⟩
    have had2 : ad ≤ 33554432 := by omega
    have had3 : 0 ≤ ad := by omega
    rw [had] at h4
    clear HL
    go_enter Try.func33, Try.ntmps33
    go_wp2_with fail
    go_ret
    exact ⟨by rw [HX.out]; rfl, HGA⟩

end Go.Proofs.Ytadaegnkclleaaa.VHeld
