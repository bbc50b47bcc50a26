/- WirePacks: it returns true. -/
import Derived.Test.YtffdglhjfpnbpaaWRUnp
import Derived.Test.YtffdglhjfpnbpaaWRPack
import Derived.Test.YtffdglhjfpnbpaaWSame
import Derived.Test.YtffdglhjfpnbpaaWTurns
namespace Go.Proofs.Ytffdglhjfpnbpaa.WPacks
open Go Go.RowKit Go.Proofs.Ytffdglhjfpnbpaa.WMod Go.Proofs.Ytffdglhjfpnbpaa.WUMod Go.Proofs.Ytffdglhjfpnbpaa.WTMod Go.Proofs.Ytffdglhjfpnbpaa.Opn Go.Proofs.Ytffdglhjfpnbpaa.Hp Go.Proofs.Ytffdglhjfpnbpaa.Rd Go.Proofs.Ytffdglhjfpnbpaa.WWrong Go.Proofs.Ytffdglhjfpnbpaa.WWait Go.Proofs.Ytffdglhjfpnbpaa.WPack Go.Proofs.Ytffdglhjfpnbpaa.WLow Go.Proofs.Ytffdglhjfpnbpaa.WUnpack Go.Proofs.Ytffdglhjfpnbpaa.WSame Go.Proofs.Ytffdglhjfpnbpaa.WRWrong Go.Proofs.Ytffdglhjfpnbpaa.WRPack Go.Proofs.Ytffdglhjfpnbpaa.WRUnp Go.Proofs.Ytffdglhjfpnbpaa.WTurns
set_option linter.unusedVariables false
set_option linter.unusedSimpArgs false

set_option maxHeartbeats 400000 in
set_option maxRecDepth 100000 in
theorem rpack_calls (ao : Option Addr) (cap : Nat) (es : List Ev) (w : World) (hv : Evs w (.slice ao es.length cap) es) :
    Calls Try.prog 10 #[.slice ao es.length cap] w fun e w' => e = .returned (.tuple #[.string (packS es), .int .i64 (wrong es)]) ∧ Hid (w.grownBy w' none) := by
  by_cases hw : wrong es = 0
  · unfold packS
    rw [if_pos hw, hw]
    exact rpack_good ao cap es w hv hw
  · unfold packS
    rw [if_neg hw]
    have A1 := Lib.hid (rwrong_calls ao cap es w hv)
    obtain ⟨r, hr⟩ : ∃ r, wrong es = r := ⟨_, rfl⟩
    obtain ⟨n, hn⟩ : ∃ n, es.length = n := ⟨_, rfl⟩
    rw [hr, hn] at A1
    rw [hr] at hw
    rw [hr, hn]
    have hw2 : (r != 0) = true := by simpa using hw
    clear hr hv hn
    go_enter Try.func10, Try.ntmps10
    go_wp2_with (go_at_call 9; refine (A1.out).mono ?_; rintro e w1 ⟨rfl, hg1⟩; have HG1 := Lib.hid hg1; clear hg1)
    go_ret2
    exact ⟨rfl, HG1.out⟩

theorem unpack_len {b : List Nat} {es : List Ev} (hb : ∀ c ∈ b, c < 256) (h : unpack b = .ok es) : es.length ≤ 4096 := wrong_len (pack_unpack hb h).1

set_option maxHeartbeats 2000000 in
set_option maxRecDepth 100000 in
theorem law (ao : Option Addr) (cap : Nat) (es : List Ev) (b : ByteArray) (w : World) (hv : Evs w (.slice ao es.length cap) es) (hb : b.size ≤ 140737488355328) :
    Calls Try.prog 4 #[.slice ao es.length cap, .string b] w fun e w' => e = .returned (.bool true) ∧ Hid (w.grownBy w' none) := by
  have W1 := Lib.hid (fun w1 (hg : w.grownBy w1 none) => wrong_calls ao cap es w1 (Slc.grown hv hg fun _ _ h => h))
  have W2 := Lib.hid (fun w1 (hg : w.grownBy w1 none) => rwrong_calls ao cap es w1 (Slc.grown hv hg fun _ _ h => h))
  have P1 := Lib.hid (fun w1 (hg : w.grownBy w1 none) => pack_calls ao cap es w1 (Slc.grown hv hg fun _ _ h => h))
  have P2 := Lib.hid (fun w1 (hg : w.grownBy w1 none) => rpack_calls ao cap es w1 (Slc.grown hv hg fun _ _ h => h))
  have U1 := Lib.hid (fun w1 => unpack_calls b w1 hb)
  have U2 := Lib.hid (fun w1 => runpack_calls b w1 hb)
  obtain ⟨r, hr⟩ : ∃ r, wrong es = r := ⟨_, rfl⟩
  obtain ⟨s, hs⟩ : ∃ s, packS es = s := ⟨_, rfl⟩
  obtain ⟨n, hn⟩ : ∃ n, es.length = n := ⟨_, rfl⟩
  have HL : Hid (∀ xs, unpack (bl b) = .ok xs → xs.length ≤ 4096) := fun xs h => unpack_len (bl_lt b) h
  obtain ⟨R, hR⟩ : ∃ R, unpack (bl b) = R := ⟨_, rfl⟩
  rw [hr, hn] at W1 W2
  rw [hr, hs, hn] at P1 P2
  rw [hR] at U1 U2 HL
  rw [hn]
  clear hv hb hr hs hn hR
  cases R with
  | error cp =>
    obtain ⟨c, p⟩ := cp
    have V1 : Hid (∀ w1, Calls Try.prog 11 #[.string b] w1 fun e w' => e = .returned (.tuple #[.slice none 0 0, .agg #[.int .i64 c, .int .i64 (p : Nat)]]) ∧ Hid (w1.grownBy w' none)) := by
      intro w1
      refine (U1.out w1).mono fun e w' h => ?_
      obtain ⟨hg, ⟨c', p', hx, rfl⟩ | ⟨es', a3, c3, hx, _⟩⟩ := h
      · simp only [Except.error.injEq, Prod.mk.injEq] at hx
        obtain ⟨rfl, rfl⟩ := hx
        exact ⟨rfl, hg⟩
      · cases hx
    have V2 : Hid (∀ w1, Calls Try.prog 12 #[.string b] w1 fun e w' => e = .returned (.tuple #[.slice none 0 0, .agg #[.int .i64 c, .int .i64 (p : Nat)]]) ∧ Hid (w1.grownBy w' none)) := by
      intro w1
      refine (U2.out w1).mono fun e w' h => ?_
      obtain ⟨hg, ⟨c', p', hx, rfl⟩ | ⟨es', a3, c3, hx, _⟩⟩ := h
      · simp only [Except.error.injEq, Prod.mk.injEq] at hx
        obtain ⟨rfl, rfl⟩ := hx
        exact ⟨rfl, hg⟩
      · cases hx
    have S : Hid (∀ w1, Calls Try.prog 13 #[.slice none 0 0, .slice none 0 0] w1 fun e w' => e = .returned (.bool true) ∧ Hid (w1.grownBy w' none)) := fun w1 => same_calls none none 0 0 [] w1 (.inr ⟨none, 0, rfl, rfl⟩) (.inr ⟨none, 0, rfl, rfl⟩) (by simp)
    clear U1 U2 HL
    go_enter Try.func4, Try.ntmps4
    go_upto_region 9 with (first
      | (go_at_call 8; refine (W1.out _ (grown_refl _ _)).mono ?_; rintro e w1 ⟨rfl, hg1⟩; have HG1 := Lib.hid hg1.out; clear hg1 W1)
      | (go_at_call 9; refine (W2.out _ HG1.out).mono ?_; rintro e w2 ⟨rfl, hg2⟩; have HG2 := Lib.hid (grown_trans HG1.out hg2.out); clear hg2 W2)
      | (go_at_call 7; refine (P1.out _ HG2.out).mono ?_; rintro e w3 ⟨rfl, hg3⟩; have HG3 := Lib.hid (grown_trans HG2.out hg3.out); clear hg3 P1)
      | (go_at_call 10; refine (P2.out _ HG3.out).mono ?_; rintro e w4 ⟨rfl, hg4⟩; have HG4 := Lib.hid (grown_trans HG3.out hg4.out); clear hg4 P2)
      | (go_at_call 11; refine (V1.out _).mono ?_; rintro e w5 ⟨rfl, hg5⟩; have HG5 := Lib.hid (grown_trans HG4.out hg5.out); clear hg5 V1)
      | (go_at_call 12; refine (V2.out _).mono ?_; rintro e w6 ⟨rfl, hg6⟩; clear V2))
    obtain ⟨k1, hk1⟩ : ∃ k, w5.heap.size = k := ⟨_, rfl⟩
    obtain ⟨k2, hk2⟩ : ∃ k, w6.heap.size = k := ⟨_, rfl⟩
    have HR1 : Hid (w6.heap[k1]? = some (.cells #[.int .i64 c, .int .i64 (p : Nat)] 30 (0, 0))) := by
      unfold Hid
      rw [hg6.out.block k1 (by simp; omega) (by simp), ← hk1]
      exact heap_alloc_new _ _
    obtain ⟨w7, hw7⟩ : ∃ w7, w6.alloc (.cells #[.int .i64 c, .int .i64 (p : Nat)] 30) = w7 := ⟨_, rfl⟩
    have HR1b : Hid (w7.heap[k1]? = some (.cells #[.int .i64 c, .int .i64 (p : Nat)] 30 (0, 0))) := by rw [← hw7]; exact row_al HR1.out _
    have HR2b : Hid (w7.heap[k2]? = some (.cells #[.int .i64 c, .int .i64 (p : Nat)] 30 (0, 0))) := by rw [← hw7, ← hk2]; exact heap_alloc_new _ _
    have HG7 : Hid (w.grownBy w7 none) := by rw [← hw7]; exact grown_alloc (grown_trans (grown_alloc HG5.out _) hg6.out) _
    have S7 := Lib.hid (S.out w7)
    rw [hk1, hk2, hw7]
    clear hk1 hk2 hw7 hg6
    go_wp2_with (go_at_call 13; refine (S7.out).mono ?_; rintro e w8 ⟨rfl, hg8⟩; have HG8 := Lib.hid (grown_trans HG7.out hg8.out); have e0 : w8.cell? ⟨k1, 0, none⟩ = some (.int .i64 c) := cell_of (grown_row0 hg8.out HR1b.out) 0; have e1 : w8.cell? ⟨k1, 1, none⟩ = some (.int .i64 (p : Nat)) := cell_of (grown_row0 hg8.out HR1b.out) 1; have e2 : w8.cell? ⟨k2, 0, none⟩ = some (.int .i64 c) := cell_of (grown_row0 hg8.out HR2b.out) 0; have e3 : w8.cell? ⟨k2, 1, none⟩ = some (.int .i64 (p : Nat)) := cell_of (grown_row0 hg8.out HR2b.out) 1; clear hg8)
    go_ret
    exact ⟨rfl, HG8.out⟩
  | ok xs =>
    have hx4 := HL.out xs rfl
    obtain ⟨m, hm⟩ : ∃ m, xs.length = m := ⟨_, rfl⟩
    have HM := Lib.hid hm
    rw [hm] at hx4
    have V1 : Hid (∀ w1, Calls Try.prog 11 #[.string b] w1 fun e w' => ∃ a3 c3, e = .returned (.tuple #[.slice a3 m c3, .agg #[.int .i64 0, .int .i64 0]]) ∧ Hid (Evs w' (.slice a3 m c3) xs) ∧ Hid (w1.grownBy w' none)) := by
      intro w1
      refine (U1.out w1).mono fun e w' h => ?_
      obtain ⟨hg, ⟨c', p', hx, rfl⟩ | ⟨es', a3, c3, hx, he, hevs⟩⟩ := h
      · cases hx
      · simp only [Except.ok.injEq] at hx
        subst hx
        rw [hm] at he hevs
        exact ⟨a3, c3, he, hevs, hg⟩
    have V2 : Hid (∀ w1, Calls Try.prog 12 #[.string b] w1 fun e w' => ∃ a3 c3, e = .returned (.tuple #[.slice a3 m c3, .agg #[.int .i64 0, .int .i64 0]]) ∧ Hid (Evs w' (.slice a3 m c3) xs) ∧ Hid (w1.grownBy w' none)) := by
      intro w1
      refine (U2.out w1).mono fun e w' h => ?_
      obtain ⟨hg, ⟨c', p', hx, rfl⟩ | ⟨es', a3, c3, hx, he, hevs⟩⟩ := h
      · cases hx
      · simp only [Except.ok.injEq] at hx
        subst hx
        rw [hm] at he hevs
        exact ⟨a3, c3, he, hevs, hg⟩
    clear U1 U2 HL hm
    go_enter Try.func4, Try.ntmps4
    go_upto_region 9 with (first
      | (go_at_call 8; refine (W1.out _ (grown_refl _ _)).mono ?_; rintro e w1 ⟨rfl, hg1⟩; have HG1 := Lib.hid hg1.out; clear hg1 W1)
      | (go_at_call 9; refine (W2.out _ HG1.out).mono ?_; rintro e w2 ⟨rfl, hg2⟩; have HG2 := Lib.hid (grown_trans HG1.out hg2.out); clear hg2 W2)
      | (go_at_call 7; refine (P1.out _ HG2.out).mono ?_; rintro e w3 ⟨rfl, hg3⟩; have HG3 := Lib.hid (grown_trans HG2.out hg3.out); clear hg3 P1)
      | (go_at_call 10; refine (P2.out _ HG3.out).mono ?_; rintro e w4 ⟨rfl, hg4⟩; have HG4 := Lib.hid (grown_trans HG3.out hg4.out); clear hg4 P2)
      | (go_at_call 11; refine (V1.out _).mono ?_; rintro e w5 ⟨a5, c5, rfl, HE5, hg5⟩; have HG5 := Lib.hid (grown_trans HG4.out hg5.out); clear hg5 V1)
      | (go_at_call 12; refine (V2.out _).mono ?_; rintro e w6 ⟨a6, c6, rfl, HE6, hg6⟩; clear V2))
    obtain ⟨k1, hk1⟩ : ∃ k, w5.heap.size = k := ⟨_, rfl⟩
    obtain ⟨k2, hk2⟩ : ∃ k, w6.heap.size = k := ⟨_, rfl⟩
    have HR1 : Hid (w6.heap[k1]? = some (.cells #[.int .i64 0, .int .i64 0] 30 (0, 0))) := by
      unfold Hid
      rw [hg6.out.block k1 (by simp; omega) (by simp), ← hk1]
      exact heap_alloc_new _ _
    obtain ⟨w7, hw7⟩ : ∃ w7, w6.alloc (.cells #[.int .i64 0, .int .i64 0] 30) = w7 := ⟨_, rfl⟩
    have HR1b : Hid (w7.heap[k1]? = some (.cells #[.int .i64 0, .int .i64 0] 30 (0, 0))) := by rw [← hw7]; exact row_al HR1.out _
    have HR2b : Hid (w7.heap[k2]? = some (.cells #[.int .i64 0, .int .i64 0] 30 (0, 0))) := by rw [← hw7, ← hk2]; exact heap_alloc_new _ _
    have HG7 : Hid (w.grownBy w7 none) := by rw [← hw7]; exact grown_alloc (grown_trans (grown_alloc HG5.out _) hg6.out) _
    have S7 : Hid (Calls Try.prog 13 #[.slice a5 m c5, .slice a6 m c6] w7 fun e w' => e = .returned (.bool true) ∧ Hid (w7.grownBy w' none)) := by
      have h1 := same_calls a5 a6 c5 c6 xs w7 (by rw [HM.out, ← hw7]; exact evs_alloc (Slc.grown (evs_alloc HE5.out _) hg6.out fun _ _ h => h) _) (by rw [HM.out, ← hw7]; exact evs_alloc HE6.out _) (by rw [HM.out]; omega)
      rw [HM.out] at h1
      exact h1
    rw [hk1, hk2, hw7]
    clear hk1 hk2 hw7 hg6
    go_wp2_with (go_at_call 13; refine (S7.out).mono ?_; rintro e w8 ⟨rfl, hg8⟩; have HG8 := Lib.hid (grown_trans HG7.out hg8.out); have e0 : w8.cell? ⟨k1, 0, none⟩ = some (.int .i64 0) := cell_of (grown_row0 hg8.out HR1b.out) 0; have e1 : w8.cell? ⟨k1, 1, none⟩ = some (.int .i64 0) := cell_of (grown_row0 hg8.out HR1b.out) 1; have e2 : w8.cell? ⟨k2, 0, none⟩ = some (.int .i64 0) := cell_of (grown_row0 hg8.out HR2b.out) 0; have e3 : w8.cell? ⟨k2, 1, none⟩ = some (.int .i64 0) := cell_of (grown_row0 hg8.out HR2b.out) 1; clear hg8)
    go_ret
    exact ⟨rfl, HG8.out⟩

end Go.Proofs.Ytffdglhjfpnbpaa.WPacks
