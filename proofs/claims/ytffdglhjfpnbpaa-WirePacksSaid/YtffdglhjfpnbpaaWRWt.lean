/- The reference's Wait: bytes from behind. -/
import Derived.Test.YtffdglhjfpnbpaaWRWrong
import Derived.Test.YtffdglhjfpnbpaaWPack
namespace Go.Proofs.Ytffdglhjfpnbpaa.WRWt
open Go Go.RowKit Go.Proofs.Ytffdglhjfpnbpaa.WMod Go.Proofs.Ytffdglhjfpnbpaa.Opn Go.Proofs.Ytffdglhjfpnbpaa.Hp Go.Proofs.Ytffdglhjfpnbpaa.Rd Go.Proofs.Ytffdglhjfpnbpaa.App Go.Proofs.Ytffdglhjfpnbpaa.WWrong Go.Proofs.Ytffdglhjfpnbpaa.WWait
set_option linter.unusedVariables false

def G (j : Nat) (l : List Nat) : List Nat := (if 0 < j / 16384 then [j / 16384 % 128 + 128] else []) ++ ((if 0 < j / 128 then [j / 128 % 128 + 128] else []) ++ ((if 0 < j then [j % 128 + 128] else []) ++ l))

theorem G_start (m : Nat) : waitB m = G (m / 128) [m % 128] := by
  unfold waitB G
  rw [Nat.div_div_eq_div_mul, Nat.div_div_eq_div_mul]

theorem G_zero (l : List Nat) : G 0 l = l := by simp [G]

theorem G_step {j : Nat} (h0 : 0 < j) (h : j < 2097152) (l : List Nat) : G j l = G (j / 128) ((j % 128 + 128) :: l) := by
  unfold G
  rw [Nat.div_div_eq_div_mul, Nat.div_div_eq_div_mul, if_pos h0, if_neg (show ¬ 0 < j / (128 * 16384) by omega)]
  simp

theorem own_new {w : World} {B : Nat} (hB : B ≤ w.heap.size) (x : Value) : (w.alloc (.cells #[x] 5)).ownsRow B 5 1 (.slice (some ⟨w.heap.size, 0, none⟩) 1 1) 1 [x] :=
  ⟨rfl, .inr ⟨w.heap.size, 1, #[x], rfl, hB, heap_alloc_new _ _, Nat.le_refl _, by unfold maxLen; omega, rfl, rfl⟩⟩

set_option maxHeartbeats 1000000 in
set_option maxRecDepth 100000 in
theorem rwt_calls (m : Nat) (w : World) (hm : m < 268435456) :
    Calls Try.prog 18 #[.int .i64 m] w fun e w' => ∃ v', e = .returned v' ∧ Hid (w'.ownsRow w.heap.size 5 1 v' (waitB m).length ((waitB m).map byt)) ∧ Hid (w.grownBy w' none) := by
  obtain ⟨i0, hi, hz0, hz1, hz2⟩ := info_parts info5
  obtain ⟨L, hL⟩ : ∃ L, waitB m = L := ⟨_, rfl⟩
  have HS : Hid (L = G (m / 128) [m % 128]) := by unfold Hid; rw [← hL, G_start]
  rw [hL]
  clear hL
  obtain ⟨d, hd⟩ : ∃ d, m % 128 = d := ⟨_, rfl⟩
  obtain ⟨q, hq⟩ : ∃ q, m / 128 = q := ⟨_, rfl⟩
  have hd1 : (m : Int) % 128 = (d : Int) := by rw [← hd]; rfl
  have hq1 : (m : Int) / 128 = (q : Int) := by rw [← hq]; rfl
  have hd2 : d < 128 := by omega
  have hq2 : q < 2097152 := by omega
  have hw8 := wrap_u8 d
  rw [Nat.mod_eq_of_lt (by omega)] at hw8
  rw [hd, hq] at HS
  have HO : Hid ((w.alloc (.cells #[.int .u8 d] 5)).ownsRow w.heap.size 5 1 (.slice (some ⟨w.heap.size, 0, none⟩) 1 1) 1 [.int .u8 d]) := own_new (Nat.le_refl _) _
  have HG0 : Hid (w.grownBy (w.alloc (.cells #[.int .u8 d] 5)) none) := grown_alloc (grown_refl _ _) _
  clear hd hq
  go_enter Try.func18, Try.ntmps18
  go_wp2_with fail
  clear hd1 hq1 hw8
  go_loopw [0, 3] (fun i v wr => ∃ (j : Nat) (l : List Nat), j < 2097152 ∧ i = .int .i64 j ∧ Hid (L = G j l) ∧ l.length ≤ 4 ∧ Hid (j < 128 ^ (4 - l.length)) ∧ Hid (wr.ownsRow w.heap.size 5 1 v l.length (l.map byt)) ∧ Hid (w.grownBy wr none)) (fun i _ _ => (intOf i).toNat)
  case atStart => exact ⟨q, [d], hq2, rfl, HS, by simp, by unfold Hid; simp; omega, HO, HG0⟩
  case round =>
    clear HS HO HG0
    obtain ⟨j, l, hj, rfl, HL, hll, HJ, HO, HG⟩ := hrel
    by_cases h0 : 0 < j
    · obtain ⟨d2, hd⟩ : ∃ d, j % 128 + 128 = d := ⟨_, rfl⟩
      obtain ⟨q3, hq⟩ : ∃ q, j / 128 = q := ⟨_, rfl⟩
      have hl4 : l.length ≤ 3 := by
        have := HJ.out
        by_cases h : l.length = 4
        · rw [h] at this; simp at this; omega
        · omega
      have HL2 : Hid (L = G q3 (d2 :: l)) := by unfold Hid; rw [HL.out, G_step h0 hj, hd, hq]
      have hd3 : 128 + (j : Int) % 128 = (d2 : Int) := by rw [← hd]; omega
      have hq4 : (j : Int) / 128 = (q3 : Int) := by rw [← hq]; rfl
      have hd4 : d2 < 256 := by omega
      have hq5 : q3 < 2097152 := by omega
      have hq6 : q3 < j := by omega
      have HJ2 : Hid (q3 < 128 ^ (4 - (l.length + 1))) := by
        have h1 := HJ.out
        unfold Hid
        have h2 : 4 - l.length = (4 - (l.length + 1)) + 1 := by omega
        rw [h2, Nat.pow_succ] at h1
        rw [← hq]
        exact Nat.div_lt_of_lt_mul (by rw [Nat.mul_comm]; exact h1)
      have hw9 := wrap_u8 d2
      rw [Nat.mod_eq_of_lt hd4] at hw9
      obtain ⟨n, hn⟩ : ∃ n, l.length = n := ⟨_, rfl⟩
      have HN := Lib.hid hn
      rw [hn] at HO hl4 HJ2
      obtain ⟨ao, cap, hv, hcs⟩ : ∃ ao cap, u3 = .slice ao n cap ∧ ∀ j u, (l.map byt)[j]? = some u → ∃ b off, ao = some ⟨b, off, none⟩ ∧ wr.cell? ⟨b, off + j, none⟩ = some u := by
        rcases owns_cells HO.out with ⟨rfl, rfl, hnil⟩ | ⟨g, cap, rfl, _, _, _, hc⟩
        · exact ⟨none, 0, rfl, fun j u h => by rw [hnil] at h; simp at h⟩
        · exact ⟨_, cap, rfl, fun j u h => ⟨g, 0, rfl, by rw [Nat.zero_add]; exact hc j u h⟩⟩
      have HCS : Hid (∀ j u, (l.map byt)[j]? = some u → ∃ b off, ao = some ⟨b, off, none⟩ ∧ (wr.alloc (.cells #[.int .u8 d2] 5)).cell? ⟨b, off + j, none⟩ = some u) := by
        intro j u h
        obtain ⟨b, off, h1, h2⟩ := hcs j u h
        exact ⟨b, off, h1, grown_cell (grown_alloc (grown_refl _ none) _) h2 (by simp)⟩
      subst hv
      have HNW : Hid ((wr.alloc (.cells #[.int .u8 d2] 5)).ownsRow wr.heap.size 5 1 (.slice (some ⟨wr.heap.size, 0, none⟩) 1 1) 1 [.int .u8 d2]) := own_new (Nat.le_refl _) _
      clear hd hq hn hcs hll
      go_wp2_with (at_builtin; refine append_in rfl _ _ 37 rfl wr.heap.size 5 i0 (.int .u8 0) 1 Try.underlying37 hi hz0 hz1 hz2 rfl _ 1 [.int .u8 d2] rfl HNW.out ao n cap (l.map byt) rfl (by rw [List.length_map, HN.out]) HCS.out (fun u hu => by obtain ⟨c, _, rfl⟩ := List.mem_map.1 hu; rfl) (by unfold maxLen; omega) (by omega) (by simp) ?_; intro v' w5 hown5 hg5 _)
      have HG5 : Hid (wr.grownBy w5 none) := grown_new (grown_from (grown_alloc (grown_refl _ (some wr.heap.size)) _) hg5 (.inl (Nat.le_refl _))) (Nat.le_refl _)
      have HO5 : Hid (w5.ownsRow w.heap.size 5 1 v' (d2 :: l).length ((d2 :: l).map byt)) := by
        unfold Hid
        rw [List.length_cons, HN.out, Nat.add_comm]
        refine ⟨hown5.1, ?_⟩
        rcases hown5.2 with hx | ⟨g, cap, cur, h1, h2, h3⟩
        · exact .inl hx
        · exact .inr ⟨g, cap, cur, h1, Nat.le_trans HG.out.size h2, h3⟩
      clear hown5 hg5
      go_wp2_with fail
      go_roundw
      case rel => exact ⟨q3, d2 :: l, hq5, rfl, HL2, by rw [List.length_cons, HN.out]; omega, by rw [List.length_cons, HN.out]; exact HJ2, HO5, grown_trans HG.out HG5.out⟩
      case measure => simp [intOf]; omega
    · obtain rfl : j = 0 := by omega
      have HX : Hid (L = l) := by unfold Hid; rw [HL.out, G_zero]
      go_wp2_with fail
      go_ret
      exact ⟨_, rfl, by rw [HX.out]; exact HO, HG⟩

end Go.Proofs.Ytffdglhjfpnbpaa.WRWt
