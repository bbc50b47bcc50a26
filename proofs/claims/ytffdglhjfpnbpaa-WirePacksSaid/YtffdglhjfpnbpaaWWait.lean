/- A time in bytes. -/
import Derived.Test.YtffdglhjfpnbpaaWWrong
import Derived.Test.YtffdglhjfpnbpaaApp
namespace Go.Proofs.Ytffdglhjfpnbpaa.WWait
open Go Go.RowKit Go.Proofs.Ytffdglhjfpnbpaa.WMod Go.Proofs.Ytffdglhjfpnbpaa.Opn Go.Proofs.Ytffdglhjfpnbpaa.Hp Go.Proofs.Ytffdglhjfpnbpaa.Rd Go.Proofs.Ytffdglhjfpnbpaa.WWrong
set_option linter.unusedVariables false

theorem info5 : (Try.prog.info? 5).map (fun i => (i.zero, i.size, i.bytes)) = some (some (.int .u8 0), 1, 1) := by kernel_rfl

def byt (n : Nat) : Value := .int .u8 n

theorem or_128 (c : Nat) (h : c < 256) : bits .or .u8 (c : Int) 128 = ((c % 128 + 128 : Nat) : Int) := by
  have : ∀ c : Fin 256, bits .or .u8 (c.val : Int) 128 = ((c.val % 128 + 128 : Nat) : Int) := by decide +kernel
  exact this ⟨c, h⟩

theorem wrap_u8 (n : Nat) : IntKind.u8.wrap (n : Int) = ((n % 256 : Nat) : Int) := by
  unfold IntKind.wrap
  simp [IntKind.signed, IntKind.bits]

theorem and_i64 (k b : Nat) (hk : k < 9223372036854775808) (hb : b < 63) : bits .and .i64 (k : Int) ((2 ^ b - 1 : Nat) : Int) = ((k % 2 ^ b : Nat) : Int) := by
  unfold bits
  simp only
  have hp : 2 ^ b < 9223372036854775808 := Nat.lt_of_lt_of_le (Nat.pow_lt_pow_right (by decide) hb) (by decide)
  have hq := Nat.two_pow_pos b
  have h0 : IntKind.i64.bits = 64 := rfl
  have e1 : ((BitVec.ofInt IntKind.i64.bits (k : Int)) &&& (BitVec.ofInt IntKind.i64.bits ((2 ^ b - 1 : Nat) : Int))).toNat = k % 2 ^ b := by
    rw [BitVec.toNat_and, BitVec.ofInt_natCast, BitVec.ofInt_natCast, BitVec.toNat_ofNat, BitVec.toNat_ofNat, h0, Nat.mod_eq_of_lt (a := k) (by omega), Nat.mod_eq_of_lt (a := 2 ^ b - 1) (by omega), Nat.and_two_pow_sub_one_eq_mod]
  rw [e1]
  have h2 : k % 2 ^ b < 2 ^ b := Nat.mod_lt _ hq
  generalize k % 2 ^ b = q at *
  unfold IntKind.wrap
  simp [IntKind.signed, IntKind.bits]
  omega

def waitUp (m : Nat) : Nat → List Nat
  | 0 => []
  | 1 => if 0 < m / 2097152 then [m / 2097152 % 128 + 128] else []
  | 2 => (if 0 < m / 2097152 then [m / 2097152 % 128 + 128] else []) ++ (if 0 < m / 16384 then [m / 16384 % 128 + 128] else [])
  | _ => (if 0 < m / 2097152 then [m / 2097152 % 128 + 128] else []) ++ ((if 0 < m / 16384 then [m / 16384 % 128 + 128] else []) ++ (if 0 < m / 128 then [m / 128 % 128 + 128] else []))

theorem waitUp_end (m : Nat) : waitUp m 3 ++ [m % 128] = waitB m := by simp [waitUp, waitB]

theorem waitUp_len (m j : Nat) : (waitUp m j).length ≤ 3 := by
  have h : ∀ (c : Prop) [Decidable c] (x : Nat), (if c then [x] else []).length ≤ 1 := fun c _ x => by split <;> simp
  have h1 := h (0 < m / 2097152) (m / 2097152 % 128 + 128)
  have h2 := h (0 < m / 16384) (m / 16384 % 128 + 128)
  have h3 := h (0 < m / 128) (m / 128 % 128 + 128)
  match j with
  | 0 => simp [waitUp]
  | 1 => simp only [waitUp]; omega
  | 2 => simp only [waitUp, List.length_append]; omega
  | _ + 3 => simp only [waitUp, List.length_append]; omega

set_option maxHeartbeats 1000000 in
set_option maxRecDepth 100000 in
theorem wait_calls (v : Value) (n m : Nat) (xs : List Value) (base : Nat) (w : World) (hown : w.ownsRow base 5 1 v n xs) (hbase : base ≤ w.heap.size) (hm : m < 268435456) (hn : n ≤ 1099511627776) :
    Calls Try.prog 14 #[v, .int .i64 m] w fun e w' => ∃ v', e = .returned v' ∧ Hid (w'.ownsRow base 5 1 v' (n + (waitB m).length) (xs ++ (waitB m).map byt)) ∧ Hid (Gr base [5] w w') := by
  have HO : Hid (w.ownsRow base 5 1 v (n + (waitUp m 0).length) (xs ++ (waitUp m 0).map byt)) := by unfold Hid; simpa [waitUp] using hown
  clear hown
  obtain ⟨i0, hi, hz0, hz1, hz2⟩ := info_parts info5
  go_enter Try.func14, Try.ntmps14
  go_wp2_with fail
  go_loopw [0, 5] (fun v s wr => ∃ (j : Nat) (c : Int), j ≤ 3 ∧ s = .int .i64 c ∧ c = 21 - 7 * (j : Int) ∧ Hid (wr.ownsRow base 5 1 v (n + (waitUp m j).length) (xs ++ (waitUp m j).map byt)) ∧ Hid (Gr base [5] w wr)) (fun _ s _ => (intOf s).toNat)
  case atStart => exact ⟨0, 21, by omega, rfl, by omega, HO, Gr.refl _ _ _⟩
  case round =>
    clear HO
    obtain ⟨j, c, hj, rfl, hc, HO, HG⟩ := hrel
    have hcase : j = 0 ∨ j = 1 ∨ j = 2 ∨ j = 3 := by omega
    rcases hcase with rfl | rfl | rfl | rfl
    · obtain rfl : c = 21 := by omega
      clear hc
      obtain ⟨q, hq⟩ : ∃ q, m / 2097152 = q := ⟨_, rfl⟩
      have hq2 : (m : Int) / 2097152 = (q : Int) := by rw [← hq]; rfl
      have HU : Hid (waitUp m 1 = waitUp m 0 ++ if 0 < q then [q % 128 + 128] else []) := by unfold Hid; rw [← hq]; simp [waitUp]
      clear hq
      by_cases hp : 0 < q
      · have hp2 : (0 : Int) < (q : Int) := by omega
        have h1 := wrap_u8 q
        obtain ⟨d, hd⟩ : ∃ d, bits .or .u8 ((q % 256 : Nat) : Int) 128 = d := ⟨_, rfl⟩
        have HD : Hid (d = ((q % 128 + 128 : Nat) : Int)) := by
          unfold Hid; rw [← hd, or_128 _ (by omega), show q % 256 % 128 = q % 128 from by omega]
        obtain ⟨y, hy⟩ : ∃ y, q % 256 = y := ⟨_, rfl⟩
        rw [hy] at h1 hd
        clear hy
        go_wp2_with (at_builtin; refine wpList_append_own _ rfl _ _ 37 rfl base 5 i0 (.int .u8 0) 1 1 Try.underlying37 hi hz0 hz1 hz2 rfl (by decide) _ _ _ rfl (HO.out.alloc _) ⟨wr.heap.size, 0, none⟩ 1 1 [.int .u8 d] rfl rfl ?c1 ?c2 ?c3 ?c4 ?c5 ?_)
        case c1 => exact cell_one_new _ _ _
        case c2 => intro u hu; simp at hu; subst hu; rfl
        case c3 => unfold maxLen; have := waitB_len m; have := waitUp_len m 0; omega
        case c4 => have := waitUp_len m 0; omega
        case c5 => have := HG.out.size; simp; omega
        intro v' w5 hown5 hg5 _
        have HO5 : Hid (w5.ownsRow base 5 1 v' (n + (waitUp m 1).length) (xs ++ (waitUp m 1).map byt)) := by
          unfold Hid
          rw [HU.out, if_pos hp, List.map_append, List.length_append, ← Nat.add_assoc]
          rw [HD.out] at hown5
          exact hown5
        have HG5 : Hid (Gr base [5] w w5) := (HG.out.alloc _).trans (.of_append (HO.out.alloc _) hg5 (by simp))
        clear hown5 hg5
        go_wp2_with fail
        go_roundw
        case rel => exact ⟨1, 14, by omega, rfl, by omega, HO5, HG5⟩
        case measure => simp [intOf]
      · have hp2 : ¬ (0 : Int) < (q : Int) := by omega
        have HO5 : Hid (wr.ownsRow base 5 1 u0 (n + (waitUp m 1).length) (xs ++ (waitUp m 1).map byt)) := by
          unfold Hid
          rw [HU.out, if_neg hp, List.append_nil]
          exact HO.out
        go_wp2_with fail
        go_roundw
        case rel => exact ⟨1, 14, by omega, rfl, by omega, HO5, HG⟩
        case measure => simp [intOf]
    · obtain rfl : c = 14 := by omega
      clear hc
      obtain ⟨q, hq⟩ : ∃ q, m / 16384 = q := ⟨_, rfl⟩
      have hq2 : (m : Int) / 16384 = (q : Int) := by rw [← hq]; rfl
      have HU : Hid (waitUp m 2 = waitUp m 1 ++ if 0 < q then [q % 128 + 128] else []) := by unfold Hid; rw [← hq]; simp [waitUp]
      clear hq
      by_cases hp : 0 < q
      · have hp2 : (0 : Int) < (q : Int) := by omega
        have h1 := wrap_u8 q
        obtain ⟨d, hd⟩ : ∃ d, bits .or .u8 ((q % 256 : Nat) : Int) 128 = d := ⟨_, rfl⟩
        have HD : Hid (d = ((q % 128 + 128 : Nat) : Int)) := by
          unfold Hid; rw [← hd, or_128 _ (by omega), show q % 256 % 128 = q % 128 from by omega]
        obtain ⟨y, hy⟩ : ∃ y, q % 256 = y := ⟨_, rfl⟩
        rw [hy] at h1 hd
        clear hy
        go_wp2_with (at_builtin; refine wpList_append_own _ rfl _ _ 37 rfl base 5 i0 (.int .u8 0) 1 1 Try.underlying37 hi hz0 hz1 hz2 rfl (by decide) _ _ _ rfl (HO.out.alloc _) ⟨wr.heap.size, 0, none⟩ 1 1 [.int .u8 d] rfl rfl ?c1 ?c2 ?c3 ?c4 ?c5 ?_)
        case c1 => exact cell_one_new _ _ _
        case c2 => intro u hu; simp at hu; subst hu; rfl
        case c3 => unfold maxLen; have := waitB_len m; have := waitUp_len m 1; omega
        case c4 => have := waitUp_len m 1; omega
        case c5 => have := HG.out.size; simp; omega
        intro v' w5 hown5 hg5 _
        have HO5 : Hid (w5.ownsRow base 5 1 v' (n + (waitUp m 2).length) (xs ++ (waitUp m 2).map byt)) := by
          unfold Hid
          rw [HU.out, if_pos hp, List.map_append, List.length_append, ← Nat.add_assoc]
          rw [HD.out] at hown5
          exact hown5
        have HG5 : Hid (Gr base [5] w w5) := (HG.out.alloc _).trans (.of_append (HO.out.alloc _) hg5 (by simp))
        clear hown5 hg5
        go_wp2_with fail
        go_roundw
        case rel => exact ⟨2, 7, by omega, rfl, by omega, HO5, HG5⟩
        case measure => simp [intOf]
      · have hp2 : ¬ (0 : Int) < (q : Int) := by omega
        have HO5 : Hid (wr.ownsRow base 5 1 u0 (n + (waitUp m 2).length) (xs ++ (waitUp m 2).map byt)) := by
          unfold Hid
          rw [HU.out, if_neg hp, List.append_nil]
          exact HO.out
        go_wp2_with fail
        go_roundw
        case rel => exact ⟨2, 7, by omega, rfl, by omega, HO5, HG⟩
        case measure => simp [intOf]
    · obtain rfl : c = 7 := by omega
      clear hc
      obtain ⟨q, hq⟩ : ∃ q, m / 128 = q := ⟨_, rfl⟩
      have hq2 : (m : Int) / 128 = (q : Int) := by rw [← hq]; rfl
      have HU : Hid (waitUp m 3 = waitUp m 2 ++ if 0 < q then [q % 128 + 128] else []) := by unfold Hid; rw [← hq]; simp [waitUp]
      clear hq
      by_cases hp : 0 < q
      · have hp2 : (0 : Int) < (q : Int) := by omega
        have h1 := wrap_u8 q
        obtain ⟨d, hd⟩ : ∃ d, bits .or .u8 ((q % 256 : Nat) : Int) 128 = d := ⟨_, rfl⟩
        have HD : Hid (d = ((q % 128 + 128 : Nat) : Int)) := by
          unfold Hid; rw [← hd, or_128 _ (by omega), show q % 256 % 128 = q % 128 from by omega]
        obtain ⟨y, hy⟩ : ∃ y, q % 256 = y := ⟨_, rfl⟩
        rw [hy] at h1 hd
        clear hy
        go_wp2_with (at_builtin; refine wpList_append_own _ rfl _ _ 37 rfl base 5 i0 (.int .u8 0) 1 1 Try.underlying37 hi hz0 hz1 hz2 rfl (by decide) _ _ _ rfl (HO.out.alloc _) ⟨wr.heap.size, 0, none⟩ 1 1 [.int .u8 d] rfl rfl ?c1 ?c2 ?c3 ?c4 ?c5 ?_)
        case c1 => exact cell_one_new _ _ _
        case c2 => intro u hu; simp at hu; subst hu; rfl
        case c3 => unfold maxLen; have := waitB_len m; have := waitUp_len m 2; omega
        case c4 => have := waitUp_len m 2; omega
        case c5 => have := HG.out.size; simp; omega
        intro v' w5 hown5 hg5 _
        have HO5 : Hid (w5.ownsRow base 5 1 v' (n + (waitUp m 3).length) (xs ++ (waitUp m 3).map byt)) := by
          unfold Hid
          rw [HU.out, if_pos hp, List.map_append, List.length_append, ← Nat.add_assoc]
          rw [HD.out] at hown5
          exact hown5
        have HG5 : Hid (Gr base [5] w w5) := (HG.out.alloc _).trans (.of_append (HO.out.alloc _) hg5 (by simp))
        clear hown5 hg5
        go_wp2_with fail
        go_roundw
        case rel => exact ⟨3, 0, by omega, rfl, by omega, HO5, HG5⟩
        case measure => simp [intOf]
      · have hp2 : ¬ (0 : Int) < (q : Int) := by omega
        have HO5 : Hid (wr.ownsRow base 5 1 u0 (n + (waitUp m 3).length) (xs ++ (waitUp m 3).map byt)) := by
          unfold Hid
          rw [HU.out, if_neg hp, List.append_nil]
          exact HO.out
        go_wp2_with fail
        go_roundw
        case rel => exact ⟨3, 0, by omega, rfl, by omega, HO5, HG⟩
        case measure => simp [intOf]
    · obtain rfl : c = 0 := by omega
      clear hc
      obtain ⟨d, hd⟩ : ∃ d : Nat, m % 128 = d := ⟨_, rfl⟩
      have hd2 : d < 128 := by omega
      have ha : bits .and .i64 (m : Int) 127 = (d : Int) := by rw [← hd]; exact and_i64 m 7 (by omega) (by decide)
      have HE : Hid (waitB m = waitUp m 3 ++ [d]) := by unfold Hid; rw [← hd, waitUp_end]
      clear hd
      go_wp2_with (at_builtin; refine wpList_append_own _ rfl _ _ 37 rfl base 5 i0 (.int .u8 0) 1 1 Try.underlying37 hi hz0 hz1 hz2 rfl (by decide) _ _ _ rfl (HO.out.alloc _) ⟨wr.heap.size, 0, none⟩ 1 1 [.int .u8 d] rfl rfl ?c1 ?c2 ?c3 ?c4 ?c5 ?_)
      case c1 => exact cell_one_new _ _ _
      case c2 => intro u hu; simp at hu; subst hu; rfl
      case c3 => unfold maxLen; have := waitUp_len m 3; omega
      case c4 => have := waitUp_len m 3; omega
      case c5 => have := HG.out.size; simp; omega
      intro v' w5 hown5 hg5 _
      have HO5 : Hid (w5.ownsRow base 5 1 v' (n + (waitB m).length) (xs ++ (waitB m).map byt)) := by
        unfold Hid
        rw [HE.out, List.map_append, List.length_append, ← Nat.add_assoc]
        exact hown5
      have HG5 : Hid (Gr base [5] w w5) := (HG.out.alloc _).trans (.of_append (HO.out.alloc _) hg5 (by simp))
      clear hown5 hg5
      go_wp2_with fail
      go_ret
      exact ⟨v', rfl, HO5, HG5⟩

end Go.Proofs.Ytffdglhjfpnbpaa.WWait
