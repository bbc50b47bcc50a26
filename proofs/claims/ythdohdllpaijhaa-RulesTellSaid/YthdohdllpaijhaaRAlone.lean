/- What a key breaks: the walks. -/
import Derived.Test.YthdohdllpaijhaaRMod
import Derived.Test.YthdohdllpaijhaaOpn
import Derived.Test.YthdohdllpaijhaaMixed
import Derived.Test.YthdohdllpaijhaaProg
import Derived.WalkKit
import Derived.WalkLawsBesides
import Derived.WalkSpells
import Derived.BigQuiet
import Derived.Deep.MidRow
import Derived.Deep.QuietTactic
import Derived.Outline
import Derived.Deep.Cut
import Derived.Deep.CutRange
import Derived.Lib.Hide
import Derived.IntWalk
import Derived.Deep.DeepCutAuto
import Derived.Deep.RegionWith
namespace Go.Proofs.Ythdohdllpaijhaa.RAlone
open Go Go.RowKit Go.Proofs.Ythdohdllpaijhaa.RMod Go.Proofs.Ythdohdllpaijhaa.Hp Go.Proofs.Ythdohdllpaijhaa.Rd
set_option linter.unusedVariables false
set_option linter.unusedSimpArgs false

theorem and_i64 (k b : Nat) (hk : k < 9223372036854775808) (hb : b < 63) : bits .and .i64 (k : Int) ((2 ^ b - 1 : Nat) : Int) = ((k % 2 ^ b : Nat) : Int) := by
  unfold bits
  simp only
  have hp : 2 ^ b < 9223372036854775808 := Nat.lt_of_lt_of_le (Nat.pow_lt_pow_right (by decide) hb) (by decide)
  have hq := Nat.two_pow_pos b
  have h0 : IntKind.i64.bits = 64 := rfl
  have e1 : ((BitVec.ofInt IntKind.i64.bits (k : Int)) &&& (BitVec.ofInt IntKind.i64.bits ((2 ^ b - 1 : Nat) : Int))).toNat = k % 2 ^ b := by
    rw [BitVec.toNat_and, BitVec.ofInt_natCast, BitVec.ofInt_natCast, BitVec.toNat_ofNat, BitVec.toNat_ofNat, h0, Nat.mod_eq_of_lt (a := k) (by omega), Nat.mod_eq_of_lt (a := 2 ^ b - 1) (by omega), Nat.and_two_pow_sub_one_eq_mod]
  rw [e1]
  have h2 : k % 2 ^ b < 2 ^ b := Nat.mod_lt _ hq
  generalize k % 2 ^ b = q at *
  unfold IntKind.wrap
  simp [IntKind.signed, IntKind.bits]
  omega

theorem may_bits {c : Int} (h0 : 0 ≤ c) (h1 : c < 4096) (key : Int) : mayB c key = decide (bits .and .i64 (c / 2 ^ (key % 12).toNat) 1 = 1) ∧ (bits .and .i64 (c / 2 ^ (key % 12).toNat) 1 = 0 ∨ bits .and .i64 (c / 2 ^ (key % 12).toNat) 1 = 1) := by
  unfold mayB
  generalize (key % 12).toNat = s
  obtain ⟨n, rfl⟩ : ∃ n : Nat, c = n := ⟨c.toNat, by omega⟩
  have e : ((n : Int) / 2 ^ s) = ((n / 2 ^ s : Nat) : Int) := by rw [Int.natCast_ediv, Int.natCast_pow]; rfl
  rw [e]
  have hq : n / 2 ^ s ≤ n := Nat.div_le_self _ _
  have := and_i64 (n / 2 ^ s) 1 (by omega) (by decide)
  rw [show ((2 ^ 1 - 1 : Nat) : Int) = 1 from rfl] at this
  rw [this]
  constructor
  · rw [Bool.eq_iff_iff]
    simp only [decide_eq_true_eq]
    omega
  · omega

theorem ret_int {k : IntKind} {a b : Int} (h : a = b) : Ending.returned (.int k a) = .returned (.int k b) := by rw [h]

set_option maxHeartbeats 400000 in
theorem apart_calls (a b : Int) (w : World) (ha : 0 ≤ a ∧ a ≤ 127) (hb : 0 ≤ b ∧ b ≤ 127) : Calls Try.prog 24 #[.int .i64 a, .int .i64 b] w fun e w' => e = .returned (.int .i64 (apartZ a b)) ∧ w' = w := by
  obtain ⟨ha0, ha1⟩ := ha
  obtain ⟨hb0, hb1⟩ := hb
  unfold apartZ
  go_enter Try.func24, Try.ntmps24
  go_wp2_with fail
  all_goals
    go_ret
    exact ⟨ret_int (by omega), rfl⟩

set_option maxHeartbeats 400000 in
theorem perf_calls (a b : Int) (w : World) (ha : 0 ≤ a ∧ a ≤ 127) (hb : 0 ≤ b ∧ b ≤ 127) : Calls Try.prog 25 #[.int .i64 a, .int .i64 b] w fun e w' => e = .returned (.bool (perfB a b)) ∧ w' = w := by
  have A := Lib.hid (apart_calls a b w ha hb)
  obtain ⟨d0, d1⟩ := apart_le ha hb
  obtain ⟨x, hx⟩ : ∃ x, apartZ a b = x := ⟨_, rfl⟩
  have HP : Hid (perfB a b = decide (x % 12 = 0 ∨ x % 12 = 7)) := by unfold Hid perfB; rw [hx]
  rw [hx] at A d0 d1
  clear hx ha hb
  obtain ⟨d, hd⟩ : ∃ d, x % 12 = d := ⟨_, rfl⟩
  rw [hd] at HP
  by_cases h0 : d = 0
  · subst h0
    have HX : Hid (perfB a b = true) := HP
    clear HP
    go_enter Try.func25, Try.ntmps25
    go_wp2_with (go_at_call 24; refine (A.out).mono ?_; rintro e w1 ⟨rfl, rfl⟩)
    go_ret
    exact ⟨by rw [HX.out]; rfl, rfl⟩
  have h0' : (d == 0) = false := by simpa using h0
  by_cases h7 : d = 7
  · subst h7
    have HX : Hid (perfB a b = true) := HP
    clear HP
    go_enter Try.func25, Try.ntmps25
    go_wp2_with (go_at_call 24; refine (A.out).mono ?_; rintro e w1 ⟨rfl, rfl⟩)
    go_ret
    exact ⟨by rw [HX.out]; rfl, rfl⟩
  have h7' : (d == 7) = false := by simpa using h7
  have HX : Hid (perfB a b = false) := by unfold Hid; rw [HP.out]; simp [h0, h7]
  clear HP
  go_enter Try.func25, Try.ntmps25
  go_wp2_with (go_at_call 24; refine (A.out).mono ?_; rintro e w1 ⟨rfl, rfl⟩)
  go_ret
  exact ⟨by rw [HX.out]; rfl, rfl⟩

set_option maxHeartbeats 1000000 in
theorem good_calls (a b : Int) (w : World) (ha : 0 ≤ a ∧ a ≤ 127) (hb : 0 ≤ b ∧ b ≤ 127) : Calls Try.prog 26 #[.int .i64 a, .int .i64 b] w fun e w' => e = .returned (.bool (goodB a b)) ∧ w' = w := by
  have A := Lib.hid (apart_calls a b w ha hb)
  obtain ⟨d0, d1⟩ := apart_le ha hb
  obtain ⟨x, hx⟩ : ∃ x, apartZ a b = x := ⟨_, rfl⟩
  have HP : Hid (goodB a b = decide (x % 12 = 0 ∨ x % 12 = 3 ∨ x % 12 = 4 ∨ x % 12 = 7 ∨ x % 12 = 8 ∨ x % 12 = 9)) := by unfold Hid goodB; rw [hx]
  rw [hx] at A d0 d1
  clear hx ha hb
  obtain ⟨d, hd⟩ : ∃ d, x % 12 = d := ⟨_, rfl⟩
  rw [hd] at HP
  by_cases h0 : d = 0
  · subst h0
    have HX : Hid (goodB a b = true) := HP
    clear HP
    go_enter Try.func26, Try.ntmps26
    go_wp2_with (go_at_call 24; refine (A.out).mono ?_; rintro e w1 ⟨rfl, rfl⟩)
    go_ret
    exact ⟨by rw [HX.out]; rfl, rfl⟩
  have h0' : (d == 0) = false := by simpa using h0
  by_cases h3 : d = 3
  · subst h3
    have HX : Hid (goodB a b = true) := HP
    clear HP
    go_enter Try.func26, Try.ntmps26
    go_wp2_with (go_at_call 24; refine (A.out).mono ?_; rintro e w1 ⟨rfl, rfl⟩)
    go_ret
    exact ⟨by rw [HX.out]; rfl, rfl⟩
  have h3' : (d == 3) = false := by simpa using h3
  by_cases h4 : d = 4
  · subst h4
    have HX : Hid (goodB a b = true) := HP
    clear HP
    go_enter Try.func26, Try.ntmps26
    go_wp2_with (go_at_call 24; refine (A.out).mono ?_; rintro e w1 ⟨rfl, rfl⟩)
    go_ret
    exact ⟨by rw [HX.out]; rfl, rfl⟩
  have h4' : (d == 4) = false := by simpa using h4
  by_cases h7 : d = 7
  · subst h7
    have HX : Hid (goodB a b = true) := HP
    clear HP
    go_enter Try.func26, Try.ntmps26
    go_wp2_with (go_at_call 24; refine (A.out).mono ?_; rintro e w1 ⟨rfl, rfl⟩)
    go_ret
    exact ⟨by rw [HX.out]; rfl, rfl⟩
  have h7' : (d == 7) = false := by simpa using h7
  by_cases h8 : d = 8
  · subst h8
    have HX : Hid (goodB a b = true) := HP
    clear HP
    go_enter Try.func26, Try.ntmps26
    go_wp2_with (go_at_call 24; refine (A.out).mono ?_; rintro e w1 ⟨rfl, rfl⟩)
    go_ret
    exact ⟨by rw [HX.out]; rfl, rfl⟩
  have h8' : (d == 8) = false := by simpa using h8
  by_cases h9 : d = 9
  · subst h9
    have HX : Hid (goodB a b = true) := HP
    clear HP
    go_enter Try.func26, Try.ntmps26
    go_wp2_with (go_at_call 24; refine (A.out).mono ?_; rintro e w1 ⟨rfl, rfl⟩)
    go_ret
    exact ⟨by rw [HX.out]; rfl, rfl⟩
  have h9' : (d == 9) = false := by simpa using h9
  have HX : Hid (goodB a b = false) := by unfold Hid; rw [HP.out]; simp [h0, h3, h4, h7, h8, h9]
  clear HP
  go_enter Try.func26, Try.ntmps26
  go_wp2_with (go_at_call 24; refine (A.out).mono ?_; rintro e w1 ⟨rfl, rfl⟩)
  go_ret
  exact ⟨by rw [HX.out]; rfl, rfl⟩

theorem cell_lt {w : World} {b o : Nat} {v : Value} (h : w.cell? ⟨b, o, none⟩ = some v) : b < w.heap.size := by
  rcases Nat.lt_or_ge b w.heap.size with h1 | h1
  · exact h1
  · exfalso
    unfold World.cell? at h
    rw [Array.getElem?_eq_none h1] at h
    cases h

theorem giv_at {w : World} {ao : Option Addr} {n cap : Nat} {g : List Int} (h : Ils w (.slice ao n cap) g) {i : Nat} (hi : i < g.length) : ∃ b off, ao = some ⟨b, off, none⟩ ∧ w.cell? ⟨b, off + i, none⟩ = some (.int .i64 (at_ g i)) := by
  have hk : g[i]? = some (at_ g i) := by unfold at_; rw [List.getD_eq_getElem?_getD, List.getElem?_eq_getElem hi]; rfl
  rcases h with ⟨b, off, cap', hh, hel⟩ | ⟨_, _, _, hnil⟩
  · simp only [Value.slice.injEq] at hh
    obtain ⟨u, h1, rfl⟩ := hel i _ hk
    exact ⟨b, off, hh.1, h1⟩
  · subst hnil; simp at hi

set_option maxHeartbeats 4000000 in
set_option maxRecDepth 100000 in
theorem alone_calls (r : Ru) (ao : Option Addr) (cap : Nat) (g : List Int) (i : Nat) (key : Int) (w : World) (hok : OkG r g) (hv : Ils w (.slice ao g.length cap) g) (hi : i < g.length) (hk : 0 ≤ key ∧ key ≤ 127) :
    Calls Try.prog 20 #[.agg #[.int .i64 r.low, .int .i64 r.high, .bool r.above, .int .i64 r.leap, .int .i64 r.classes], .slice ao g.length cap, .int .i64 (i : Int), .int .i64 key] w fun e w' => e = .returned (.int .i64 (aloneZ r g i key)) ∧ Hid (w.grownBy w' none) := by
  obtain ⟨b, off, rfl, hcell⟩ := giv_at hv hi
  have hx := at_mem hok i
  obtain ⟨⟨l0, l1⟩, _, _, _, _, _, cl0, cl1⟩ := hok
  obtain ⟨n, hn⟩ : ∃ n, g.length = n := ⟨_, rfl⟩
  have HN := Lib.hid hn
  rw [hn] at l0 l1 hi ⊢
  obtain ⟨x, hxx⟩ : ∃ x, at_ g i = x := ⟨_, rfl⟩
  have HA : Hid (aloneZ r g i key = if key < r.low ∨ r.high < key ∨ mayB r.classes key = false then 1
    else if r.above = true ∧ key < x then 2 else if goodB key x = false then 3
    else if i = 0 ∧ perfB key x = false ∨ i + 1 = n ∧ apartZ key x % 12 ≠ 0 then 4 else 0) := by
    unfold Hid aloneZ
    rw [hxx, hn]
  rw [hxx] at hcell hx
  obtain ⟨low, high, above, leap, classes⟩ := r
  simp only at cl0 cl1 HA
  obtain ⟨R, hR⟩ : ∃ R, aloneZ ⟨low, high, above, leap, classes⟩ g i key = R := ⟨_, rfl⟩
  rw [hR] at HA ⊢
  have HG0 : Hid (w.grownBy (w.alloc (.cells #[.int .i64 low, .int .i64 high, .bool above, .int .i64 leap, .int .i64 classes] 23)) none) := grown_alloc (grown_refl _ _) _
  have hblt : b < w.heap.size := cell_lt hcell
  clear hR hxx hv hn
  obtain ⟨x0, x1⟩ := hx
  obtain ⟨k0, k1⟩ := hk
  obtain ⟨D0, D1⟩ := apart_le (a := key) (b := x) ⟨k0, k1⟩ ⟨x0, x1⟩
  obtain ⟨ap, hap⟩ : ∃ ap, apartZ key x = ap := ⟨_, rfl⟩
  obtain ⟨D, hD⟩ : ∃ D, ap % 12 = D := ⟨_, rfl⟩
  have HD : Hid (apartZ key x % 12 = D) := by unfold Hid; rw [hap, hD]
  rw [hap] at D0 D1
  obtain ⟨M, hM⟩ : ∃ M, bits .and .i64 (classes / 2 ^ (key % 12).toNat) 1 = M := ⟨_, rfl⟩
  have HM : Hid (mayB classes key = decide (M = 1) ∧ (M = 0 ∨ M = 1)) := by
    rw [← hM]
    exact may_bits cl0 cl1 key
  by_cases q1 : key < low
  · have HX : Hid (R = 1) := by unfold Hid; rw [HA.out, if_pos (.inl q1)]
    clear HA
    go_enter Try.func20, Try.ntmps20
    go_wp2_with (first
      | (go_at_call 26; refine (good_calls _ _ _ ⟨k0, k1⟩ ⟨x0, x1⟩).mono ?_; rintro e w1 ⟨rfl, rfl⟩)
      | (go_at_call 25; refine (perf_calls _ _ _ ⟨k0, k1⟩ ⟨x0, x1⟩).mono ?_; rintro e w1 ⟨rfl, rfl⟩)
      | (go_at_call 24; refine (apart_calls _ _ _ ⟨k0, k1⟩ ⟨x0, x1⟩).mono ?_; rintro e w1 ⟨rfl, rfl⟩))
    go_ret
    exact ⟨by rw [HX.out]; rfl, HG0.out⟩
  by_cases q2 : high < key
  · have HX : Hid (R = 1) := by unfold Hid; rw [HA.out, if_pos (.inr (.inl q2))]
    clear HA
    go_enter Try.func20, Try.ntmps20
    go_wp2_with (first
      | (go_at_call 26; refine (good_calls _ _ _ ⟨k0, k1⟩ ⟨x0, x1⟩).mono ?_; rintro e w1 ⟨rfl, rfl⟩)
      | (go_at_call 25; refine (perf_calls _ _ _ ⟨k0, k1⟩ ⟨x0, x1⟩).mono ?_; rintro e w1 ⟨rfl, rfl⟩)
      | (go_at_call 24; refine (apart_calls _ _ _ ⟨k0, k1⟩ ⟨x0, x1⟩).mono ?_; rintro e w1 ⟨rfl, rfl⟩))
    go_ret
    exact ⟨by rw [HX.out]; rfl, HG0.out⟩
  obtain ⟨hM1, hM2⟩ := HM.out
  by_cases q3 : M = 0
  · subst q3
    have q3' : mayB classes key = false := by rw [hM1]; decide
    have HX : Hid (R = 1) := by unfold Hid; rw [HA.out, if_pos (.inr (.inr q3'))]
    clear HA
    go_enter Try.func20, Try.ntmps20
    go_wp2_with (first
      | (go_at_call 26; refine (good_calls _ _ _ ⟨k0, k1⟩ ⟨x0, x1⟩).mono ?_; rintro e w1 ⟨rfl, rfl⟩)
      | (go_at_call 25; refine (perf_calls _ _ _ ⟨k0, k1⟩ ⟨x0, x1⟩).mono ?_; rintro e w1 ⟨rfl, rfl⟩)
      | (go_at_call 24; refine (apart_calls _ _ _ ⟨k0, k1⟩ ⟨x0, x1⟩).mono ?_; rintro e w1 ⟨rfl, rfl⟩))
    go_ret
    exact ⟨by rw [HX.out]; rfl, HG0.out⟩
  obtain rfl : M = 1 := by omega
  have q3' : mayB classes key = true := by rw [hM1]; decide
  have q3n : ¬ (key < low ∨ high < key ∨ mayB classes key = false) := by simp [q1, q2, q3']
  have Q3N := Lib.hid q3n
  clear hM1 hM2 HM q3 q3' q3n
  cases above with
  | true =>
    by_cases q4 : key < x
    · have HX : Hid (R = 2) := by unfold Hid; rw [HA.out, if_neg Q3N.out, if_pos ⟨rfl, q4⟩]
      clear HA
      go_enter Try.func20, Try.ntmps20
      go_wp2_with (first
        | (go_at_call 26; refine (good_calls _ _ _ ⟨k0, k1⟩ ⟨x0, x1⟩).mono ?_; rintro e w1 ⟨rfl, rfl⟩)
        | (go_at_call 25; refine (perf_calls _ _ _ ⟨k0, k1⟩ ⟨x0, x1⟩).mono ?_; rintro e w1 ⟨rfl, rfl⟩)
        | (go_at_call 24; refine (apart_calls _ _ _ ⟨k0, k1⟩ ⟨x0, x1⟩).mono ?_; rintro e w1 ⟨rfl, rfl⟩))
      go_ret
      exact ⟨by rw [HX.out]; rfl, HG0.out⟩
    · by_cases q5 : goodB key x = false
      · have HX : Hid (R = 3) := by unfold Hid; rw [HA.out, if_neg Q3N.out, if_neg (fun h => q4 h.2), if_pos q5]
        clear HA
        go_enter Try.func20, Try.ntmps20
        go_wp2_with (first
          | (go_at_call 26; refine (good_calls _ _ _ ⟨k0, k1⟩ ⟨x0, x1⟩).mono ?_; rintro e w1 ⟨rfl, rfl⟩)
          | (go_at_call 25; refine (perf_calls _ _ _ ⟨k0, k1⟩ ⟨x0, x1⟩).mono ?_; rintro e w1 ⟨rfl, rfl⟩)
          | (go_at_call 24; refine (apart_calls _ _ _ ⟨k0, k1⟩ ⟨x0, x1⟩).mono ?_; rintro e w1 ⟨rfl, rfl⟩))
        go_ret
        exact ⟨by rw [HX.out]; rfl, HG0.out⟩
      have q5' : goodB key x = true := by simpa using q5
      by_cases q6 : i = 0
      · subst q6
        rw [Nat.add_zero] at hcell
        by_cases q7 : perfB key x = false
        · have HX : Hid (R = 4) := by unfold Hid; rw [HA.out, if_neg Q3N.out, if_neg (fun h => q4 h.2), if_neg q5, if_pos (.inl ⟨rfl, q7⟩)]
          clear HA
          go_enter Try.func20, Try.ntmps20
          go_wp2_with (first
            | (go_at_call 26; refine (good_calls _ _ _ ⟨k0, k1⟩ ⟨x0, x1⟩).mono ?_; rintro e w1 ⟨rfl, rfl⟩)
            | (go_at_call 25; refine (perf_calls _ _ _ ⟨k0, k1⟩ ⟨x0, x1⟩).mono ?_; rintro e w1 ⟨rfl, rfl⟩)
            | (go_at_call 24; refine (apart_calls _ _ _ ⟨k0, k1⟩ ⟨x0, x1⟩).mono ?_; rintro e w1 ⟨rfl, rfl⟩))
          go_ret
          exact ⟨by rw [HX.out]; rfl, HG0.out⟩
        have q7' : perfB key x = true := by simpa using q7
        by_cases q8 : n = 1
        · subst q8
          by_cases q9 : D = 0
          · subst q9
            have HX : Hid (R = 0) := by unfold Hid; rw [HA.out, if_neg Q3N.out, if_neg (fun h => q4 h.2), if_neg q5, if_neg (by rw [HD.out]; simp [q7'])]
            clear HA
            go_enter Try.func20, Try.ntmps20
            go_wp2_with (first
              | (go_at_call 26; refine (good_calls _ _ _ ⟨k0, k1⟩ ⟨x0, x1⟩).mono ?_; rintro e w1 ⟨rfl, rfl⟩)
              | (go_at_call 25; refine (perf_calls _ _ _ ⟨k0, k1⟩ ⟨x0, x1⟩).mono ?_; rintro e w1 ⟨rfl, rfl⟩)
              | (go_at_call 24; refine (apart_calls _ _ _ ⟨k0, k1⟩ ⟨x0, x1⟩).mono ?_; rintro e w1 ⟨rfl, rfl⟩))
            go_ret
            exact ⟨by rw [HX.out]; rfl, HG0.out⟩
          · have q9' : (D != 0) = true := by simpa using q9
            have HX : Hid (R = 4) := by unfold Hid; rw [HA.out, if_neg Q3N.out, if_neg (fun h => q4 h.2), if_neg q5, if_pos (.inr ⟨rfl, by rw [HD.out]; exact q9⟩)]
            clear HA
            go_enter Try.func20, Try.ntmps20
            go_wp2_with (first
              | (go_at_call 26; refine (good_calls _ _ _ ⟨k0, k1⟩ ⟨x0, x1⟩).mono ?_; rintro e w1 ⟨rfl, rfl⟩)
              | (go_at_call 25; refine (perf_calls _ _ _ ⟨k0, k1⟩ ⟨x0, x1⟩).mono ?_; rintro e w1 ⟨rfl, rfl⟩)
              | (go_at_call 24; refine (apart_calls _ _ _ ⟨k0, k1⟩ ⟨x0, x1⟩).mono ?_; rintro e w1 ⟨rfl, rfl⟩))
            go_ret
            exact ⟨by rw [HX.out]; rfl, HG0.out⟩
        · have q8' : ((n : Int) - 1 == 0) = false := by rw [beq_eq_false_iff_ne]; omega
          have q8'' : ((0 : Int) == (n : Int) - 1) = false := by rw [beq_eq_false_iff_ne]; omega
          have HX : Hid (R = 0) := by unfold Hid; rw [HA.out, if_neg Q3N.out, if_neg (fun h => q4 h.2), if_neg q5, if_neg (by simp [q7']; omega)]
          clear HA
          go_enter Try.func20, Try.ntmps20
          go_wp2_with (first
            | (go_at_call 26; refine (good_calls _ _ _ ⟨k0, k1⟩ ⟨x0, x1⟩).mono ?_; rintro e w1 ⟨rfl, rfl⟩)
            | (go_at_call 25; refine (perf_calls _ _ _ ⟨k0, k1⟩ ⟨x0, x1⟩).mono ?_; rintro e w1 ⟨rfl, rfl⟩)
            | (go_at_call 24; refine (apart_calls _ _ _ ⟨k0, k1⟩ ⟨x0, x1⟩).mono ?_; rintro e w1 ⟨rfl, rfl⟩))
          go_ret
          exact ⟨by rw [HX.out]; rfl, HG0.out⟩
      have q6' : ((i : Int) == 0) = false := by rw [beq_eq_false_iff_ne]; omega
      by_cases q8 : i + 1 = n
      · have q8' : ((i : Int) == (n : Int) - 1) = true := by rw [beq_iff_eq]; omega
        by_cases q9 : D = 0
        · subst q9
          have HX : Hid (R = 0) := by unfold Hid; rw [HA.out, if_neg Q3N.out, if_neg (fun h => q4 h.2), if_neg q5, if_neg (by rw [HD.out]; simp [q6])]
          clear HA
          go_enter Try.func20, Try.ntmps20
          go_wp2_with (first
            | (go_at_call 26; refine (good_calls _ _ _ ⟨k0, k1⟩ ⟨x0, x1⟩).mono ?_; rintro e w1 ⟨rfl, rfl⟩)
            | (go_at_call 25; refine (perf_calls _ _ _ ⟨k0, k1⟩ ⟨x0, x1⟩).mono ?_; rintro e w1 ⟨rfl, rfl⟩)
            | (go_at_call 24; refine (apart_calls _ _ _ ⟨k0, k1⟩ ⟨x0, x1⟩).mono ?_; rintro e w1 ⟨rfl, rfl⟩))
          go_ret
          exact ⟨by rw [HX.out]; rfl, HG0.out⟩
        · have q9' : (D != 0) = true := by simpa using q9
          have HX : Hid (R = 4) := by unfold Hid; rw [HA.out, if_neg Q3N.out, if_neg (fun h => q4 h.2), if_neg q5, if_pos (.inr ⟨q8, by rw [HD.out]; exact q9⟩)]
          clear HA
          go_enter Try.func20, Try.ntmps20
          go_wp2_with (first
            | (go_at_call 26; refine (good_calls _ _ _ ⟨k0, k1⟩ ⟨x0, x1⟩).mono ?_; rintro e w1 ⟨rfl, rfl⟩)
            | (go_at_call 25; refine (perf_calls _ _ _ ⟨k0, k1⟩ ⟨x0, x1⟩).mono ?_; rintro e w1 ⟨rfl, rfl⟩)
            | (go_at_call 24; refine (apart_calls _ _ _ ⟨k0, k1⟩ ⟨x0, x1⟩).mono ?_; rintro e w1 ⟨rfl, rfl⟩))
          go_ret
          exact ⟨by rw [HX.out]; rfl, HG0.out⟩
      · have q8' : ((i : Int) == (n : Int) - 1) = false := by rw [beq_eq_false_iff_ne]; omega
        have HX : Hid (R = 0) := by unfold Hid; rw [HA.out, if_neg Q3N.out, if_neg (fun h => q4 h.2), if_neg q5, if_neg (by simp [q6, q8])]
        clear HA
        go_enter Try.func20, Try.ntmps20
        go_wp2_with (first
          | (go_at_call 26; refine (good_calls _ _ _ ⟨k0, k1⟩ ⟨x0, x1⟩).mono ?_; rintro e w1 ⟨rfl, rfl⟩)
          | (go_at_call 25; refine (perf_calls _ _ _ ⟨k0, k1⟩ ⟨x0, x1⟩).mono ?_; rintro e w1 ⟨rfl, rfl⟩)
          | (go_at_call 24; refine (apart_calls _ _ _ ⟨k0, k1⟩ ⟨x0, x1⟩).mono ?_; rintro e w1 ⟨rfl, rfl⟩))
        go_ret
        exact ⟨by rw [HX.out]; rfl, HG0.out⟩
  | false =>
    by_cases q5 : goodB key x = false
    · have HX : Hid (R = 3) := by unfold Hid; rw [HA.out, if_neg Q3N.out, if_neg (fun h => by cases h.1), if_pos q5]
      clear HA
      go_enter Try.func20, Try.ntmps20
      go_wp2_with (first
        | (go_at_call 26; refine (good_calls _ _ _ ⟨k0, k1⟩ ⟨x0, x1⟩).mono ?_; rintro e w1 ⟨rfl, rfl⟩)
        | (go_at_call 25; refine (perf_calls _ _ _ ⟨k0, k1⟩ ⟨x0, x1⟩).mono ?_; rintro e w1 ⟨rfl, rfl⟩)
        | (go_at_call 24; refine (apart_calls _ _ _ ⟨k0, k1⟩ ⟨x0, x1⟩).mono ?_; rintro e w1 ⟨rfl, rfl⟩))
      go_ret
      exact ⟨by rw [HX.out]; rfl, HG0.out⟩
    have q5' : goodB key x = true := by simpa using q5
    by_cases q6 : i = 0
    · subst q6
      rw [Nat.add_zero] at hcell
      by_cases q7 : perfB key x = false
      · have HX : Hid (R = 4) := by unfold Hid; rw [HA.out, if_neg Q3N.out, if_neg (fun h => by cases h.1), if_neg q5, if_pos (.inl ⟨rfl, q7⟩)]
        clear HA
        go_enter Try.func20, Try.ntmps20
        go_wp2_with (first
          | (go_at_call 26; refine (good_calls _ _ _ ⟨k0, k1⟩ ⟨x0, x1⟩).mono ?_; rintro e w1 ⟨rfl, rfl⟩)
          | (go_at_call 25; refine (perf_calls _ _ _ ⟨k0, k1⟩ ⟨x0, x1⟩).mono ?_; rintro e w1 ⟨rfl, rfl⟩)
          | (go_at_call 24; refine (apart_calls _ _ _ ⟨k0, k1⟩ ⟨x0, x1⟩).mono ?_; rintro e w1 ⟨rfl, rfl⟩))
        go_ret
        exact ⟨by rw [HX.out]; rfl, HG0.out⟩
      have q7' : perfB key x = true := by simpa using q7
      by_cases q8 : n = 1
      · subst q8
        by_cases q9 : D = 0
        · subst q9
          have HX : Hid (R = 0) := by unfold Hid; rw [HA.out, if_neg Q3N.out, if_neg (fun h => by cases h.1), if_neg q5, if_neg (by rw [HD.out]; simp [q7'])]
          clear HA
          go_enter Try.func20, Try.ntmps20
          go_wp2_with (first
            | (go_at_call 26; refine (good_calls _ _ _ ⟨k0, k1⟩ ⟨x0, x1⟩).mono ?_; rintro e w1 ⟨rfl, rfl⟩)
            | (go_at_call 25; refine (perf_calls _ _ _ ⟨k0, k1⟩ ⟨x0, x1⟩).mono ?_; rintro e w1 ⟨rfl, rfl⟩)
            | (go_at_call 24; refine (apart_calls _ _ _ ⟨k0, k1⟩ ⟨x0, x1⟩).mono ?_; rintro e w1 ⟨rfl, rfl⟩))
          go_ret
          exact ⟨by rw [HX.out]; rfl, HG0.out⟩
        · have q9' : (D != 0) = true := by simpa using q9
          have HX : Hid (R = 4) := by unfold Hid; rw [HA.out, if_neg Q3N.out, if_neg (fun h => by cases h.1), if_neg q5, if_pos (.inr ⟨rfl, by rw [HD.out]; exact q9⟩)]
          clear HA
          go_enter Try.func20, Try.ntmps20
          go_wp2_with (first
            | (go_at_call 26; refine (good_calls _ _ _ ⟨k0, k1⟩ ⟨x0, x1⟩).mono ?_; rintro e w1 ⟨rfl, rfl⟩)
            | (go_at_call 25; refine (perf_calls _ _ _ ⟨k0, k1⟩ ⟨x0, x1⟩).mono ?_; rintro e w1 ⟨rfl, rfl⟩)
            | (go_at_call 24; refine (apart_calls _ _ _ ⟨k0, k1⟩ ⟨x0, x1⟩).mono ?_; rintro e w1 ⟨rfl, rfl⟩))
          go_ret
          exact ⟨by rw [HX.out]; rfl, HG0.out⟩
      · have q8' : ((n : Int) - 1 == 0) = false := by rw [beq_eq_false_iff_ne]; omega
        have q8'' : ((0 : Int) == (n : Int) - 1) = false := by rw [beq_eq_false_iff_ne]; omega
        have HX : Hid (R = 0) := by unfold Hid; rw [HA.out, if_neg Q3N.out, if_neg (fun h => by cases h.1), if_neg q5, if_neg (by simp [q7']; omega)]
        clear HA
        go_enter Try.func20, Try.ntmps20
        go_wp2_with (first
          | (go_at_call 26; refine (good_calls _ _ _ ⟨k0, k1⟩ ⟨x0, x1⟩).mono ?_; rintro e w1 ⟨rfl, rfl⟩)
          | (go_at_call 25; refine (perf_calls _ _ _ ⟨k0, k1⟩ ⟨x0, x1⟩).mono ?_; rintro e w1 ⟨rfl, rfl⟩)
          | (go_at_call 24; refine (apart_calls _ _ _ ⟨k0, k1⟩ ⟨x0, x1⟩).mono ?_; rintro e w1 ⟨rfl, rfl⟩))
        go_ret
        exact ⟨by rw [HX.out]; rfl, HG0.out⟩
    have q6' : ((i : Int) == 0) = false := by rw [beq_eq_false_iff_ne]; omega
    by_cases q8 : i + 1 = n
    · have q8' : ((i : Int) == (n : Int) - 1) = true := by rw [beq_iff_eq]; omega
      by_cases q9 : D = 0
      · subst q9
        have HX : Hid (R = 0) := by unfold Hid; rw [HA.out, if_neg Q3N.out, if_neg (fun h => by cases h.1), if_neg q5, if_neg (by rw [HD.out]; simp [q6])]
        clear HA
        go_enter Try.func20, Try.ntmps20
        go_wp2_with (first
          | (go_at_call 26; refine (good_calls _ _ _ ⟨k0, k1⟩ ⟨x0, x1⟩).mono ?_; rintro e w1 ⟨rfl, rfl⟩)
          | (go_at_call 25; refine (perf_calls _ _ _ ⟨k0, k1⟩ ⟨x0, x1⟩).mono ?_; rintro e w1 ⟨rfl, rfl⟩)
          | (go_at_call 24; refine (apart_calls _ _ _ ⟨k0, k1⟩ ⟨x0, x1⟩).mono ?_; rintro e w1 ⟨rfl, rfl⟩))
        go_ret
        exact ⟨by rw [HX.out]; rfl, HG0.out⟩
      · have q9' : (D != 0) = true := by simpa using q9
        have HX : Hid (R = 4) := by unfold Hid; rw [HA.out, if_neg Q3N.out, if_neg (fun h => by cases h.1), if_neg q5, if_pos (.inr ⟨q8, by rw [HD.out]; exact q9⟩)]
        clear HA
        go_enter Try.func20, Try.ntmps20
        go_wp2_with (first
          | (go_at_call 26; refine (good_calls _ _ _ ⟨k0, k1⟩ ⟨x0, x1⟩).mono ?_; rintro e w1 ⟨rfl, rfl⟩)
          | (go_at_call 25; refine (perf_calls _ _ _ ⟨k0, k1⟩ ⟨x0, x1⟩).mono ?_; rintro e w1 ⟨rfl, rfl⟩)
          | (go_at_call 24; refine (apart_calls _ _ _ ⟨k0, k1⟩ ⟨x0, x1⟩).mono ?_; rintro e w1 ⟨rfl, rfl⟩))
        go_ret
        exact ⟨by rw [HX.out]; rfl, HG0.out⟩
    · have q8' : ((i : Int) == (n : Int) - 1) = false := by rw [beq_eq_false_iff_ne]; omega
      have HX : Hid (R = 0) := by unfold Hid; rw [HA.out, if_neg Q3N.out, if_neg (fun h => by cases h.1), if_neg q5, if_neg (by simp [q6, q8])]
      clear HA
      go_enter Try.func20, Try.ntmps20
      go_wp2_with (first
        | (go_at_call 26; refine (good_calls _ _ _ ⟨k0, k1⟩ ⟨x0, x1⟩).mono ?_; rintro e w1 ⟨rfl, rfl⟩)
        | (go_at_call 25; refine (perf_calls _ _ _ ⟨k0, k1⟩ ⟨x0, x1⟩).mono ?_; rintro e w1 ⟨rfl, rfl⟩)
        | (go_at_call 24; refine (apart_calls _ _ _ ⟨k0, k1⟩ ⟨x0, x1⟩).mono ?_; rintro e w1 ⟨rfl, rfl⟩))
      go_ret
      exact ⟨by rw [HX.out]; rfl, HG0.out⟩

set_option maxHeartbeats 4000000 in
set_option maxRecDepth 100000 in
theorem behind_calls (r : Ru) (ao : Option Addr) (cap : Nat) (g : List Int) (i : Nat) (key last sm : Int) (same : Bool) (w : World) (hok : OkG r g) (hv : Ils w (.slice ao g.length cap) g) (hi : i < g.length) (hi0 : 0 < i) (hk : 0 ≤ key ∧ key ≤ 127) (hl : 0 ≤ last ∧ last ≤ 127) (hs : same = decide (0 < sm)) :
    Calls Try.prog 19 #[.agg #[.int .i64 r.low, .int .i64 r.high, .bool r.above, .int .i64 r.leap, .int .i64 r.classes], .slice ao g.length cap, .int .i64 (i : Int), .int .i64 key, .int .i64 last, .int .i64 sm] w fun e w' => e = .returned (.int .i64 (behindZ r g i key last same)) ∧ Hid (w.grownBy w' none) := by
  obtain ⟨b, off, rfl, hcell⟩ := giv_at hv hi
  obtain ⟨i1, rfl⟩ : ∃ i1, i = i1 + 1 := ⟨i - 1, by omega⟩
  obtain ⟨b2, off2, he2, hcell2⟩ := giv_at hv (i := i1) (by omega)
  simp only [Option.some.injEq, Addr.mk.injEq, and_true] at he2
  obtain ⟨rfl, rfl⟩ := he2
  have hx := at_mem hok (i1 + 1)
  have hy := at_mem hok i1
  obtain ⟨⟨l0, l1⟩, _, _, _, _, _, _, _⟩ := hok
  obtain ⟨n, hn⟩ : ∃ n, g.length = n := ⟨_, rfl⟩
  rw [hn] at l0 l1 hi ⊢
  obtain ⟨x, hxx⟩ : ∃ x, at_ g (i1 + 1) = x := ⟨_, rfl⟩
  obtain ⟨y, hyy⟩ : ∃ y, at_ g i1 = y := ⟨_, rfl⟩
  have HA : Hid (behindZ r g (i1 + 1) key last same = if r.leap < apartZ key last ∨ apartZ key last = 6 then 5
    else if 0 < apartZ key last ∧ perfB key x = true ∧ apartZ key x % 12 = apartZ last y % 12 then 6
    else if apartZ key last = 0 ∧ same = true then 7 else 0) := by
    unfold Hid behindZ
    rw [Nat.add_sub_cancel, hxx, hyy]
  rw [hxx] at hcell hx
  rw [hyy] at hcell2 hy
  obtain ⟨low, high, above, leap, classes⟩ := r
  simp only at HA
  obtain ⟨R, hR⟩ : ∃ R, behindZ ⟨low, high, above, leap, classes⟩ g (i1 + 1) key last same = R := ⟨_, rfl⟩
  rw [hR] at HA ⊢
  clear hR hxx hyy hv hn hi0
  obtain ⟨x0, x1⟩ := hx
  obtain ⟨y0, y1⟩ := hy
  obtain ⟨k0, k1⟩ := hk
  obtain ⟨la0, la1⟩ := hl
  have P1 := Lib.hid (fun w => perf_calls key x w ⟨k0, k1⟩ ⟨x0, x1⟩)
  have A1 := Lib.hid (fun w => apart_calls key last w ⟨k0, k1⟩ ⟨la0, la1⟩)
  have A2 := Lib.hid (fun w => apart_calls key x w ⟨k0, k1⟩ ⟨x0, x1⟩)
  have A3 := Lib.hid (fun w => apart_calls last y w ⟨la0, la1⟩ ⟨y0, y1⟩)
  obtain ⟨d10, d11⟩ := apart_le (a := key) (b := last) ⟨k0, k1⟩ ⟨la0, la1⟩
  obtain ⟨d20, d21⟩ := apart_le (a := key) (b := x) ⟨k0, k1⟩ ⟨x0, x1⟩
  obtain ⟨d30, d31⟩ := apart_le (a := last) (b := y) ⟨la0, la1⟩ ⟨y0, y1⟩
  obtain ⟨e1, he1⟩ : ∃ e, apartZ key last = e := ⟨_, rfl⟩
  obtain ⟨e2, he2⟩ : ∃ e, apartZ key x = e := ⟨_, rfl⟩
  obtain ⟨e3, he3⟩ : ∃ e, apartZ last y = e := ⟨_, rfl⟩
  obtain ⟨pf, hpf⟩ : ∃ e, perfB key x = e := ⟨_, rfl⟩
  rw [he1] at A1 d10 d11
  rw [he2] at A2 d20 d21
  rw [he3] at A3 d30 d31
  rw [hpf] at P1
  rw [he1, he2, he3, hpf] at HA
  have HG0 : Hid (w.grownBy (w.alloc (.cells #[.int .i64 low, .int .i64 high, .bool above, .int .i64 leap, .int .i64 classes] 23)) none) := grown_alloc (grown_refl _ _) _
  have hblt : b < w.heap.size := cell_lt hcell
  have HS := Lib.hid hs
  clear he1 he2 he3 hpf hs
  by_cases q1 : leap < e1
  · have HX : Hid (R = 5) := by unfold Hid; rw [HA.out, if_pos (.inl q1)]
    clear HA
    go_enter Try.func19, Try.ntmps19
    go_wp2_with (go_at_call 24; refine (A1.out _).mono ?_; rintro e w1 ⟨rfl, rfl⟩)
    go_ret
    exact ⟨by rw [HX.out]; rfl, HG0.out⟩
  by_cases q2 : e1 = 6
  · have HX : Hid (R = 5) := by unfold Hid; rw [HA.out, if_pos (.inr q2)]
    subst q2
    clear HA
    go_enter Try.func19, Try.ntmps19
    go_wp2_with (go_at_call 24; refine (A1.out _).mono ?_; rintro e w1 ⟨rfl, rfl⟩)
    go_ret
    exact ⟨by rw [HX.out]; rfl, HG0.out⟩
  have q2' : (e1 == 6) = false := by simpa using q2
  have HB : Hid (R = if 0 < e1 ∧ pf = true ∧ e2 % 12 = e3 % 12 then 6 else if e1 = 0 ∧ same = true then 7 else 0) := by
    unfold Hid; rw [HA.out, if_neg (by omega)]
  clear HA
  go_enter Try.func19, Try.ntmps19
  go_upto_region 4 with (go_at_call 24; refine (A1.out _).mono ?_; rintro e w1 ⟨rfl, rfl⟩)
  obtain ⟨wn, hwn⟩ : ∃ wn, w.alloc (.cells #[.int .i64 low, .int .i64 high, .bool above, .int .i64 leap, .int .i64 classes] 23) = wn := ⟨_, rfl⟩
  have cx : wn.cell? ⟨b, off + (i1 + 1), none⟩ = some (.int .i64 x) := by rw [← hwn]; exact grown_cell HG0.out hcell (by simp)
  have cy : wn.cell? ⟨b, off + i1, none⟩ = some (.int .i64 y) := by rw [← hwn]; exact grown_cell HG0.out hcell2 (by simp)
  rw [hwn] at HG0 ⊢
  clear hwn hcell hcell2
  go_cut [26] (fun v wx => v = .bool (decide (0 < e1 ∧ pf = true ∧ e2 % 12 = e3 % 12)) ∧ Hid (wn.grownBy wx none))
  case first =>
    clear HG0 HB
    have ei : IntKind.i64.wrap (((i1 + 1 : Nat) : Int) - 1) = (i1 : Int) := by rw [IntWalk.i64_in _ (by omega)]; omega
    have ei2 : IntKind.i64.wrap ((i1 : Int) + 1 - 1) = (i1 : Int) := by rw [IntWalk.i64_in _ (by omega)]; omega
    have a2 := A2.out
    have a3 := A3.out
    by_cases z1 : 0 < e1
    · have z1' : decide ((0 : Int) < e1) = true := by simpa using z1
      cases pf with
      | false =>
        have HV : Hid (false = decide (0 < e1 ∧ false = true ∧ e2 % 12 = e3 % 12)) := by unfold Hid; simp
        go_quiet ((go_at_call 25; exact Calls.quiet_of_same (P1.out _)))
        go_wp2_with fail
        go_meet
        exact ⟨by rw [← HV.out], grown_drewN (grown_refl _ _) _⟩
      | true =>
        have t2 : Int.tmod e2 12 = e2 % 12 := Int.tmod_eq_emod_of_nonneg d20
        have t3 : Int.tmod e3 12 = e3 % 12 := Int.tmod_eq_emod_of_nonneg d30
        obtain ⟨m2, hm2⟩ : ∃ m, e2 % 12 = m := ⟨_, rfl⟩
        obtain ⟨m3, hm3⟩ : ∃ m, e3 % 12 = m := ⟨_, rfl⟩
        have HM2 := Lib.hid hm2
        have HM3 := Lib.hid hm3
        rw [hm2] at t2
        rw [hm3] at t3
        obtain ⟨B, hB⟩ : ∃ B, (m2 == m3) = B := ⟨_, rfl⟩
        have HV : Hid (B = decide (0 < e1 ∧ true = true ∧ e2 % 12 = e3 % 12)) := by
          unfold Hid
          rw [← hB, hm2, hm3, Bool.eq_iff_iff]
          simp [z1]
        clear hm2 hm3 a2 a3
        go_quiet ((first | (go_at_call 25; exact Calls.quiet_of_same (P1.out _)) | (go_at_call_of 24 (Value.int IntKind.i64 last); exact Calls.quiet_of_same (A3.out _)) | (go_at_call 24; exact Calls.quiet_of_same (A2.out _))))
        go_wp2_with fail
        go_meet
        exact ⟨by rw [← HV.out], grown_drewN (grown_refl _ _) _⟩
    · have z1' : decide ((0 : Int) < e1) = false := by simpa using z1
      have HV : Hid (false = decide (0 < e1 ∧ pf = true ∧ e2 % 12 = e3 % 12)) := by unfold Hid; simp [z1]
      go_quiet (fail)
      go_wp2_with fail
      go_meet
      exact ⟨by rw [← HV.out], grown_drewN (grown_refl _ _) _⟩
  case rest =>
    obtain ⟨rfl, HGc⟩ := hcut
    have HGW : Hid (w.grownBy wc none) := grown_trans HG0.out HGc.out
    clear HG0 HGc cx cy P1 A1 A2 A3
    by_cases hb : 0 < e1 ∧ pf = true ∧ e2 % 12 = e3 % 12
    · have HX : Hid (R = 6) := by unfold Hid; rw [HB.out, if_pos hb]
      simp only [hb, and_self, decide_true]
      clear HB hb
      go_wp2_with fail
      go_ret
      exact ⟨by rw [HX.out]; rfl, HGW.out⟩
    have HC : Hid (R = if e1 = 0 ∧ same = true then 7 else 0) := by unfold Hid; rw [HB.out, if_neg hb]
    rw [decide_eq_false hb]
    clear HB hb
    by_cases z0 : e1 = 0
    · subst z0
      by_cases z2 : 0 < sm
      · have HX : Hid (R = 7) := by unfold Hid; rw [HC.out, if_pos ⟨rfl, by rw [HS.out]; simpa using z2⟩]
        clear HC
        go_wp2_with fail
        go_ret
        exact ⟨by rw [HX.out]; rfl, HGW.out⟩
      · have HX : Hid (R = 0) := by unfold Hid; rw [HC.out, if_neg (by rw [HS.out]; simp [z2])]
        clear HC
        go_wp2_with fail
        go_ret
        exact ⟨by rw [HX.out]; rfl, HGW.out⟩
    · have z0' : (e1 == 0) = false := by simpa using z0
      have HX : Hid (R = 0) := by unfold Hid; rw [HC.out, if_neg (fun h => z0 h.1)]
      clear HC
      go_wp2_with fail
      go_ret
      exact ⟨by rw [HX.out]; rfl, HGW.out⟩

end Go.Proofs.Ythdohdllpaijhaa.RAlone
