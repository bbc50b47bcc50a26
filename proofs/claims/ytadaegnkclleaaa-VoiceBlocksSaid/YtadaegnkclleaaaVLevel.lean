/- A voice: level, Off. -/
import Derived.Test.YtadaegnkclleaaaVWalk
namespace Go.Proofs.Ytadaegnkclleaaa.VLevel
open Go Ieee Go.RowKit Go.Proofs.Ytadaegnkclleaaa.VMod Go.Proofs.Ytadaegnkclleaaa.VWalk Go.Proofs.Ytadaegnkclleaaa.Hp Go.Proofs.Ytadaegnkclleaaa.Rd
set_option linter.unusedVariables false

theorem vat_cells {w : World} {g : Nat} {p : Pt} {s : St} (h : VAt w g p s) :
    w.cell? ⟨g, 0, none⟩ = some (.int .i64 p.shape) ∧ w.cell? ⟨g, 1, none⟩ = some (.int .u32 p.step) ∧ w.cell? ⟨g, 2, none⟩ = some (.float .f64 p.gain) ∧ w.cell? ⟨g, 3, none⟩ = some (.int .i64 p.att) ∧ w.cell? ⟨g, 4, none⟩ = some (.int .i64 p.dec) ∧
    w.cell? ⟨g, 5, none⟩ = some (.int .i64 p.rel) ∧ w.cell? ⟨g, 6, none⟩ = some (.int .i64 p.sus) ∧ w.cell? ⟨g, 7, none⟩ = some (.int .u32 s.phase) ∧ w.cell? ⟨g, 8, none⟩ = some (.int .i64 s.time) ∧ w.cell? ⟨g, 9, none⟩ = some (.int .i64 s.off) ∧ w.cell? ⟨g, 10, none⟩ = some (.int .i64 s.from_) :=
  ⟨cell_of h 0, cell_of h 1, cell_of h 2, cell_of h 3, cell_of h 4, cell_of h 5, cell_of h 6, cell_of h 7, cell_of h 8, cell_of h 9, cell_of h 10⟩

theorem mul_small {a b : Int} (h0 : 0 ≤ a) (h1 : a ≤ 1048576) (k0 : 0 ≤ b) (k1 : b ≤ 67108864) : 0 ≤ a * b ∧ a * b ≤ 70368744177664 :=
  ⟨Int.mul_nonneg h0 k0, Int.mul_le_mul h1 k1 k0 (by decide)⟩

set_option maxHeartbeats 2000000 in
set_option maxRecDepth 100000 in
theorem level_calls (g : Nat) (p : Pt) (s : St) (w : World) (hv : VAt w g p s) (hp : OkP p) (hs : OkS s) :
    Calls Try.prog 30 #[.pointer (some ⟨g, 0, none⟩)] w fun e w' => e = .returned (.int .i64 (levelZ p s)) ∧ ∃ k, w' = w.drewN k := by
  obtain ⟨_, _, _, a3, a4, a5, a6, a7, a8, a9, a10⟩ := vat_cells hv
  have hll := level_le hp hs
  obtain ⟨_, _, ⟨at0, at1⟩, ⟨d0, d1⟩, ⟨r0, r1⟩, s0, s1⟩ := hp
  obtain ⟨_, ⟨t0, t1⟩, ⟨o0, o1⟩, f0, f1⟩ := hs
  obtain ⟨shape, step, gain, att, dec, rel, sus⟩ := p
  obtain ⟨phase, time, off, from_⟩ := s
  simp only at a3 a4 a5 a6 a7 a8 a9 a10 at0 at1 d0 d1 r0 r1 s0 s1 t0 t1 o0 o1 f0 f1
  obtain ⟨L, hL⟩ : ∃ L, levelZ ⟨shape, step, gain, att, dec, rel, sus⟩ ⟨phase, time, off, from_⟩ = L := ⟨_, rfl⟩
  have HL : Hid (L = if rel ≤ off then 0
  else if 0 ≤ off then Int.tdiv (from_ * (rel - off)) rel
  else if time < att then Int.tdiv (1048576 * time) att
  else if time - att < dec then 1048576 - Int.tdiv ((1048576 - sus) * (time - att)) dec
  else sus) := by unfold Hid; rw [← hL]; rfl
  rw [hL] at hll ⊢
  obtain ⟨l0, l1⟩ := hll
  clear hv hL
  by_cases h1 : rel ≤ off
  · have HX : Hid (L = 0) := by unfold Hid; rw [HL.out, if_pos h1]
    clear HL
    go_enter Try.func30, Try.ntmps30
    go_upto_region 2 with fail
    go_region
    go_wp2_with fail
    go_ret
    exact ⟨by rw [HX.out]; rfl, 1, rfl⟩
  by_cases h2 : 0 ≤ off
  · have HX : Hid (L = Int.tdiv (from_ * (rel - off)) rel) := by unfold Hid; rw [HL.out, if_neg h1, if_pos h2]
    obtain ⟨q0, q1⟩ := mul_small (a := from_) (b := rel - off) f0 f1 (by omega) (by omega)
    obtain ⟨m, hm⟩ : ∃ m, from_ * (rel - off) = m := ⟨_, rfl⟩
    obtain ⟨df, hdf⟩ : ∃ m, rel - off = m := ⟨_, rfl⟩
    rw [hm] at HX q0 q1
    rw [hdf] at hm
    have hX := HX.out.symm
    have hr0 : ¬ rel = 0 := by omega
    have hr1 : (rel == 0) = false := by simpa using hr0
    clear HL HX
    go_enter Try.func30, Try.ntmps30
    go_upto_region 2 with fail
    go_region
    go_upto_region 5 with fail
    go_region
    go_wp2_with fail
    go_ret
    exact ⟨rfl, 2, rfl⟩
  by_cases h3 : time < att
  · have HX : Hid (L = Int.tdiv (1048576 * time) att) := by unfold Hid; rw [HL.out, if_neg h1, if_neg h2, if_pos h3]
    obtain ⟨m, hm⟩ : ∃ m, 1048576 * time = m := ⟨_, rfl⟩
    have q0 : 0 ≤ m := by omega
    have q1 : m ≤ 70368744177664 := by omega
    rw [hm] at HX
    have hX := HX.out.symm
    have hr0 : ¬ att = 0 := by omega
    have hr1 : (att == 0) = false := by simpa using hr0
    clear HL HX
    go_enter Try.func30, Try.ntmps30
    go_upto_region 2 with fail
    go_region
    go_wp2_with fail
    go_ret
    exact ⟨rfl, 1, rfl⟩
  by_cases h4 : time - att < dec
  · have HX : Hid (L = 1048576 - Int.tdiv ((1048576 - sus) * (time - att)) dec) := by unfold Hid; rw [HL.out, if_neg h1, if_neg h2, if_neg h3, if_pos h4]
    obtain ⟨q0, q1⟩ := mul_small (a := 1048576 - sus) (b := time - att) (by omega) (by omega) (by omega) (by omega)
    have q3 := tdiv_le (a := (1048576 - sus) * (time - att)) (b := dec) (q := 1048576) q0 (by omega) (Int.mul_le_mul (by omega) (by omega) (by omega) (by omega))
    obtain ⟨df, hdf⟩ : ∃ m, time - att = m := ⟨_, rfl⟩
    obtain ⟨sf, hsf⟩ : ∃ m, 1048576 - sus = m := ⟨_, rfl⟩
    rw [hdf, hsf] at HX q0 q1 q3
    obtain ⟨m, hm⟩ : ∃ m, sf * df = m := ⟨_, rfl⟩
    rw [hm] at HX q0 q1 q3
    obtain ⟨u, hu⟩ : ∃ u, Int.tdiv m dec = u := ⟨_, rfl⟩
    rw [hu] at HX q3
    obtain ⟨q3, q4⟩ := q3
    have hX := HX.out.symm
    rw [hdf] at h4
    have hr0 : ¬ dec = 0 := by omega
    have hr1 : (dec == 0) = false := by simpa using hr0
    clear HL HX
    go_enter Try.func30, Try.ntmps30
    go_upto_region 2 with fail
    go_region
    go_upto_region 8 with fail
    go_region
    go_upto_region 9 with fail
    go_region
    go_wp2_with fail
    go_ret
    exact ⟨rfl, 3, rfl⟩
  · have HX : Hid (L = sus) := by unfold Hid; rw [HL.out, if_neg h1, if_neg h2, if_neg h3, if_neg h4]
    clear HL
    go_enter Try.func30, Try.ntmps30
    go_upto_region 2 with fail
    go_region
    go_upto_region 8 with fail
    go_region
    go_wp2_with fail
    go_ret
    exact ⟨by rw [HX.out]; rfl, 2, rfl⟩

def OffPost (g : Nat) (p : Pt) (s : St) (w : World) (e : Ending) (w' : World) : Prop := e = .returned (.tuple #[]) ∧ Hid (VAt w' g p (offS p s)) ∧ Hid (w.grownBy w' (some g))

theorem vat_off {w : World} {g : Nat} {p : Pt} {s : St} (h : VAt w g p s) (x : Int) : VAt ((w.setCell ⟨g, 10, none⟩ (.int .i64 x)).setCell ⟨g, 9, none⟩ (.int .i64 0)) g p ⟨s.phase, s.time, 0, x⟩ := set_self (set_self h _) _

set_option maxHeartbeats 400000 in
set_option maxRecDepth 100000 in
theorem off_calls (g : Nat) (p : Pt) (s : St) (w : World) (hv : VAt w g p s) (hp : OkP p) (hs : OkS s) : Calls Try.prog 23 #[.pointer (some ⟨g, 0, none⟩)] w fun e w' => OffPost g p s w e w' := by
  have HV := Lib.hid hv
  obtain ⟨_, _, _, _, _, _, _, _, _, a9, a10⟩ := vat_cells hv
  have HL := Lib.hid (level_calls g p s w hv hp hs)
  unfold OffPost offS
  by_cases h1 : s.off < 0
  · rw [if_pos h1]
    obtain ⟨L, hL⟩ : ∃ L, levelZ p s = L := ⟨_, rfl⟩
    rw [hL] at HL ⊢
    clear hL hp hs hv
    go_enter Try.func23, Try.ntmps23
    go_wp2_with fail
    refine (HL.out).mono ?_
    rintro e w1 ⟨rfl, k, rfl⟩
    have b9 : (w.drewN k).cell? ⟨g, 9, none⟩ = some (.int .i64 s.off) := a9
    have b10 : (w.drewN k).cell? ⟨g, 10, none⟩ = some (.int .i64 s.from_) := a10
    have f9 : (w.drewN k).frozen? ⟨g, 9, none⟩ = false := free_of (w := w.drewN k) HV.out 9
    have f10 : (w.drewN k).frozen? ⟨g, 10, none⟩ = false := free_of (w := w.drewN k) HV.out 10
    have HVk : Hid (VAt (w.drewN k) g p s) := HV.out
    have HGk : Hid (w.grownBy (w.drewN k) (some g)) := grown_drewN (grown_refl _ _) k
    clear a9 a10 HV HL
    obtain ⟨wk, hwk⟩ : ∃ wk, w.drewN k = wk := ⟨_, rfl⟩
    rw [hwk] at b9 b10 f9 f10 HVk HGk ⊢
    clear hwk
    go_wp2_with fail
    go_end0
    exact ⟨rfl, vat_off HVk.out L, grown_set (grown_set HGk.out (.inl rfl) _) (.inl rfl) _⟩
  · rw [if_neg h1]
    clear hp hs hv HL
    go_enter Try.func23, Try.ntmps23
    go_wp2_with fail
    go_end0
    exact ⟨rfl, HV.out, grown_refl _ _⟩

end Go.Proofs.Ytadaegnkclleaaa.VLevel
