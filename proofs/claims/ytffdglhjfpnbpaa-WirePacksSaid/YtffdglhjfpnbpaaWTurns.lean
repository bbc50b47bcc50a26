/- WireTurns: it returns true. -/
import Derived.Test.YtffdglhjfpnbpaaWSame
import Derived.Test.YtffdglhjfpnbpaaWShort
namespace Go.Proofs.Ytffdglhjfpnbpaa.WTurns
open Go Go.RowKit Go.Proofs.Ytffdglhjfpnbpaa.WMod Go.Proofs.Ytffdglhjfpnbpaa.WUMod Go.Proofs.Ytffdglhjfpnbpaa.WTMod Go.Proofs.Ytffdglhjfpnbpaa.Opn Go.Proofs.Ytffdglhjfpnbpaa.Hp Go.Proofs.Ytffdglhjfpnbpaa.Rd Go.Proofs.Ytffdglhjfpnbpaa.WWrong Go.Proofs.Ytffdglhjfpnbpaa.WWait Go.Proofs.Ytffdglhjfpnbpaa.WPack Go.Proofs.Ytffdglhjfpnbpaa.WLow Go.Proofs.Ytffdglhjfpnbpaa.WUnpack Go.Proofs.Ytffdglhjfpnbpaa.WSame Go.Proofs.Ytffdglhjfpnbpaa.WShort
set_option linter.unusedVariables false
set_option linter.unusedSimpArgs false

theorem unpackP_err (b : List Nat) : ∀ (f p last st : Nat) (acc : List Ev) (c : Int) (q : Nat), unpackP b f p last st acc = .error (c, q) → c = 2 ∨ c = 5 := by
  intro f
  induction f with
  | zero => intro p last st acc c q h; simp [unpackP] at h
  | succ f ih =>
    intro p last st acc c q h
    unfold unpackP at h
    split at h
    · cases h
    · split at h
      · simp only [Except.error.injEq, Prod.mk.injEq] at h; omega
      · split at h
        · simp only [Except.error.injEq, Prod.mk.injEq] at h; omega
        · split at h
          · simp only [Except.error.injEq, Prod.mk.injEq] at h; omega
          · exact ih _ _ _ _ _ _ h

theorem bl_strOf {l : List Nat} (h : ∀ c ∈ l, c < 256) : bl (strOf l) = l := by
  unfold bl strOf
  rw [List.toList_toArray, List.map_map]
  conv => rhs; rw [← List.map_id l]
  refine List.map_congr_left fun c hc => ?_
  simp only [Function.comp, id]
  exact Nat.mod_eq_of_lt (h c hc)

theorem strOf_bl (s : ByteArray) : strOf (bl s) = s := by
  unfold bl strOf
  rw [List.map_map]
  have : (UInt8.ofNat ∘ UInt8.toNat) = id := by
    funext u
    simp
  rw [this, List.map_id, Array.toArray_toList]

theorem waitB_lt (n : Nat) : ∀ c ∈ waitB n, c < 256 := by
  intro c hc
  unfold waitB at hc
  simp only [List.mem_append, List.mem_singleton] at hc
  have h : ∀ (q : Prop) [Decidable q] (x : Nat), c ∈ (if q then [x] else []) → c = x := fun q _ x hx => by split at hx <;> simp at hx; exact hx
  rcases hc with hc | hc | hc | hc
  · have := h _ _ hc; omega
  · have := h _ _ hc; omega
  · have := h _ _ hc; omega
  · omega

theorem packL_lt : ∀ (es : List Ev) (last st : Int), wrongL last es = 0 → ∀ c ∈ packL last st es, c < 256 := by
  intro es
  induction es with
  | nil => intro last st _ c hc; simp [packL] at hc
  | cons e es ih =>
    intro last st hw c hc
    unfold wrongL at hw
    split at hw
    · rename_i he
      obtain ⟨k1, k2, k3, k4, _⟩ := wrongE_ok he
      unfold packL packE at hc
      simp only [List.mem_append, List.mem_cons] at hc
      rcases hc with (hc | hc | hc | hc) | hc
      · exact waitB_lt _ c hc
      · split at hc
        · simp at hc
        · simp only [List.mem_singleton] at hc
          unfold stE at hc
          omega
      · omega
      · split at hc
        · simp only [List.mem_singleton] at hc
          omega
        · simp at hc
      · exact ih _ _ hw c hc
    · rename_i he; exact absurd hw he

/-- What is packed, unpacked. -/
theorem turn_up {es : List Ev} (h : wrong es = 0) : unpack (bl (packS es)) = .ok es := by
  unfold packS
  rw [if_pos h, bl_strOf]
  · exact unpack_pack h
  · have h2 := h
    unfold wrong at h2
    split at h2
    · cases h2
    · exact packL_lt es 0 0 h2

theorem turn_down {s : ByteArray} {es : List Ev} (h : unpack (bl s) = .ok es) : wrong es = 0 ∧ packS es = s := by
  obtain ⟨h1, h2⟩ := pack_unpack (bl_lt s) h
  refine ⟨h1, ?_⟩
  unfold packS
  rw [if_pos h1, h2, strOf_bl]

theorem packS_size (es : List Ev) (h : wrong es = 0) : (packS es).size ≤ 28672 := by
  have hl : es.length ≤ 4096 := by
    unfold wrong at h
    split at h
    · cases h
    · omega
  unfold packS
  rw [if_pos h]
  have := packL_len 0 0 es
  have e : (strOf (packL 0 0 es)).size = (packL 0 0 es).length := by
    unfold strOf ByteArray.size
    simp
  omega

theorem wrong_len {es : List Ev} (h : wrong es = 0) : es.length ≤ 4096 := by
  unfold wrong at h
  split at h
  · cases h
  · omega

theorem evs_alloc {w : World} {v : Value} {es : List Ev} (h : Evs w v es) (o : Obj) : Evs (w.alloc o) v es := Slc.grown h (grown_alloc (grown_refl _ _) _) fun _ _ h => h

set_option maxHeartbeats 2000000 in
set_option maxRecDepth 100000 in
theorem law (ao : Option Addr) (cap : Nat) (es : List Ev) (b : ByteArray) (w : World) (hv : Evs w (.slice ao es.length cap) es) (hb : b.size ≤ 140737488355328) :
    Calls Try.prog 5 #[.slice ao es.length cap, .string b] w fun e w' => e = .returned (.bool true) ∧ Hid (w.grownBy w' none) := by
  have A1 := Lib.hid (fun w1 (hg : w.grownBy w1 none) => pack_calls ao cap es w1 (Slc.grown hv hg fun _ _ h => h))
  have HV := Lib.hid hv
  have U2 := Lib.hid (fun w1 => unpack_calls b w1 hb)
  have T2 : Hid (∀ es', unpack (bl b) = .ok es' → wrong es' = 0 ∧ packS es' = b) := fun es' h => turn_down h
  have T3 : Hid (∀ c q, unpack (bl b) = .error (c, q) → c = 2 ∨ c = 5) := fun c q h => unpackP_err _ _ _ _ _ _ _ _ h
  have P2 := Lib.hid (fun ao' cap' es' w1 (h : Evs w1 (.slice ao' es'.length cap') es') => pack_calls ao' cap' es' w1 h)
  obtain ⟨r, hr⟩ : ∃ r, wrong es = r := ⟨_, rfl⟩
  obtain ⟨s, hs⟩ : ∃ s, packS es = s := ⟨_, rfl⟩
  obtain ⟨n, hn⟩ : ∃ n, es.length = n := ⟨_, rfl⟩
  obtain ⟨R, hR⟩ : ∃ R, unpack (bl b) = R := ⟨_, rfl⟩
  have T1 : Hid (r = 0 → unpack (bl s) = .ok es ∧ s.size ≤ 28672 ∧ n ≤ 4096) := fun h => by rw [← hs, ← hn]; rw [h] at hr; exact ⟨turn_up hr, packS_size es hr, wrong_len hr⟩
  rw [hr, hs, hn] at A1
  rw [hR] at U2 T2 T3
  rw [hn] at HV ⊢
  have HN := Lib.hid hn
  clear hv hb hr hs hn hR
  by_cases hz : r = 0
  · subst hz
    obtain ⟨t1, t2, t3⟩ := T1.out rfl
    have U1 : Hid (∀ w1, Calls Try.prog 11 #[.string s] w1 fun e w' => ∃ a3 c3, e = .returned (.tuple #[.slice a3 n c3, .agg #[.int .i64 0, .int .i64 0]]) ∧ Hid (Evs w' (.slice a3 n c3) es) ∧ Hid (w1.grownBy w' none)) := by
      intro w1
      refine (unpack_calls s w1 (by omega)).mono fun e w' h => ?_
      obtain ⟨hg, ⟨c', p', hx, rfl⟩ | ⟨es', a3, c3, hx, he, hevs⟩⟩ := h
      · rw [t1] at hx; cases hx
      · rw [t1] at hx
        simp only [Except.ok.injEq] at hx
        subst hx
        rw [HN.out] at he hevs
        exact ⟨a3, c3, he, hevs, hg⟩
    have S1 : Hid (∀ w1 a c, Evs w1 (.slice a n c) es → w.grownBy w1 none → Calls Try.prog 13 #[.slice a n c, .slice ao n cap] w1 fun e w' => e = .returned (.bool true) ∧ Hid (w1.grownBy w' none)) := by
      intro w1 a c h hg
      have h1 := same_calls a ao c cap es w1 (by rw [HN.out]; exact h) (by rw [HN.out]; exact Slc.grown HV.out hg fun _ _ h => h) (by rw [HN.out]; omega)
      rw [HN.out] at h1
      exact h1
    have tok1 : True := trivial
    clear t1 T1
    cases R with
    | error cp =>
      obtain ⟨c, p⟩ := cp
      have hc2 := T3.out c p rfl
      have hc3 : (c != 0) = true := by rw [bne_iff_ne]; omega
      have U3 : Hid (∀ w1, Calls Try.prog 11 #[.string b] w1 fun e w' => e = .returned (.tuple #[.slice none 0 0, .agg #[.int .i64 c, .int .i64 (p : Nat)]]) ∧ Hid (w1.grownBy w' none)) := by
        intro w1
        refine (U2.out w1).mono fun e w' h => ?_
        obtain ⟨hg, ⟨c', p', hx, rfl⟩ | ⟨es', a3, c3, hx, _⟩⟩ := h
        · simp only [Except.error.injEq, Prod.mk.injEq] at hx
          obtain ⟨rfl, rfl⟩ := hx
          exact ⟨rfl, hg⟩
        · cases hx
      clear U2 T2 T3 hc2
      go_enter Try.func5, Try.ntmps5
      go_wp2_with (first
        | (go_at_call 6; refine (alive_calls _).mono ?_; rintro e w1 ⟨rfl, hg1⟩; have HG1 := Lib.hid hg1.out; clear hg1)
        | (go_at_call 7; refine (A1.out _ HG1.out).mono ?_; rintro e w2 ⟨rfl, hg2⟩; have HG2 := Lib.hid (grown_trans HG1.out hg2.out); clear hg2 A1)
        | (go_at_call 11; have _t := tok1; refine (U1.out _).mono ?_; rintro e w3 ⟨a3, c3, rfl, HE3, hg3⟩; clear tok1 _t U1; have HG3 := Lib.hid (grown_trans HG2.out hg3.out); clear hg3)
        | (go_at_call 13; refine (S1.out _ _ _ (evs_alloc HE3.out _) (grown_alloc HG3.out _)).mono ?_; rintro e w4 ⟨rfl, hg4⟩; have HG4 := Lib.hid (grown_trans (grown_alloc HG3.out _) hg4.out); clear hg4)
        | (go_at_call 11; refine (U3.out _).mono ?_; rintro e w5 ⟨rfl, hg5⟩; have HG5 := Lib.hid (grown_trans HG4.out hg5.out); clear hg5 U3))
      go_ret
      exact ⟨rfl, grown_alloc HG5.out _⟩
    | ok es2 =>
      obtain ⟨hw2, hp2⟩ := T2.out es2 rfl
      have P3 := Lib.hid (fun ao' cap' w1 h => P2.out ao' cap' es2 w1 h)
      obtain ⟨n2, hn2⟩ : ∃ n2, es2.length = n2 := ⟨_, rfl⟩
      rw [hw2, hp2, hn2] at P3
      have U3 : Hid (∀ w1, Calls Try.prog 11 #[.string b] w1 fun e w' => ∃ a3 c3, e = .returned (.tuple #[.slice a3 n2 c3, .agg #[.int .i64 0, .int .i64 0]]) ∧ Hid (Evs w' (.slice a3 n2 c3) es2) ∧ Hid (w1.grownBy w' none)) := by
        intro w1
        refine (U2.out w1).mono fun e w' h => ?_
        obtain ⟨hg, ⟨c', p', hx, rfl⟩ | ⟨es', a3, c3, hx, he, hevs⟩⟩ := h
        · cases hx
        · simp only [Except.ok.injEq] at hx
          subst hx
          rw [hn2] at he hevs
          exact ⟨a3, c3, he, hevs, hg⟩
      clear U2 T2 T3 P2 hw2 hp2 hn2
      have tok2 : True := trivial
      go_enter Try.func5, Try.ntmps5
      go_wp2_with (first
        | (go_at_call 6; refine (alive_calls _).mono ?_; rintro e w1 ⟨rfl, hg1⟩; have HG1 := Lib.hid hg1.out; clear hg1)
        | (go_at_call 7; refine (A1.out _ HG1.out).mono ?_; rintro e w2 ⟨rfl, hg2⟩; have HG2 := Lib.hid (grown_trans HG1.out hg2.out); clear hg2 A1)
        | (go_at_call 11; have _t := tok1; refine (U1.out _).mono ?_; rintro e w3 ⟨a3, c3, rfl, HE3, hg3⟩; clear tok1 _t U1; have HG3 := Lib.hid (grown_trans HG2.out hg3.out); clear hg3)
        | (go_at_call 13; refine (S1.out _ _ _ (evs_alloc HE3.out _) (grown_alloc HG3.out _)).mono ?_; rintro e w4 ⟨rfl, hg4⟩; have HG4 := Lib.hid (grown_trans (grown_alloc HG3.out _) hg4.out); clear hg4)
        | (go_at_call 11; refine (U3.out _).mono ?_; rintro e w5 ⟨a5, c5, rfl, HE5, hg5⟩; have HG5 := Lib.hid (grown_trans HG4.out hg5.out); clear hg5 U3)
        | (go_at_call 7; have _t := tok2; refine (P3.out _ _ _ (evs_alloc HE5.out _)).mono ?_; rintro e w6 ⟨rfl, hg6⟩; clear tok2 _t; have HG6 := Lib.hid (grown_trans (grown_alloc HG5.out _) hg6.out); clear hg6))
      go_ret
      exact ⟨rfl, HG6.out⟩

  · have hz2 : (r == 0) = false := by rw [beq_eq_false_iff_ne]; exact hz
    clear T1
    cases R with
    | error cp =>
      obtain ⟨c, p⟩ := cp
      have hc2 := T3.out c p rfl
      have hc3 : (c != 0) = true := by rw [bne_iff_ne]; omega
      have U3 : Hid (∀ w1, Calls Try.prog 11 #[.string b] w1 fun e w' => e = .returned (.tuple #[.slice none 0 0, .agg #[.int .i64 c, .int .i64 (p : Nat)]]) ∧ Hid (w1.grownBy w' none)) := by
        intro w1
        refine (U2.out w1).mono fun e w' h => ?_
        obtain ⟨hg, ⟨c', p', hx, rfl⟩ | ⟨es', a3, c3, hx, _⟩⟩ := h
        · simp only [Except.error.injEq, Prod.mk.injEq] at hx
          obtain ⟨rfl, rfl⟩ := hx
          exact ⟨rfl, hg⟩
        · cases hx
      clear U2 T2 T3 hc2
      go_enter Try.func5, Try.ntmps5
      go_wp2_with (first
        | (go_at_call 6; refine (alive_calls _).mono ?_; rintro e w1 ⟨rfl, hg1⟩; have HG1 := Lib.hid hg1.out; clear hg1)
        | (go_at_call 7; refine (A1.out _ HG1.out).mono ?_; rintro e w2 ⟨rfl, hg2⟩; have HG2 := Lib.hid (grown_trans HG1.out hg2.out); clear hg2 A1)
        | (go_at_call 11; refine (U3.out _).mono ?_; rintro e w5 ⟨rfl, hg5⟩; have HG5 := Lib.hid (grown_trans HG2.out hg5.out); clear hg5 U3))
      go_ret
      exact ⟨rfl, grown_alloc HG5.out _⟩
    | ok es2 =>
      obtain ⟨hw2, hp2⟩ := T2.out es2 rfl
      have P3 := Lib.hid (fun ao' cap' w1 h => P2.out ao' cap' es2 w1 h)
      obtain ⟨n2, hn2⟩ : ∃ n2, es2.length = n2 := ⟨_, rfl⟩
      rw [hw2, hp2, hn2] at P3
      have U3 : Hid (∀ w1, Calls Try.prog 11 #[.string b] w1 fun e w' => ∃ a3 c3, e = .returned (.tuple #[.slice a3 n2 c3, .agg #[.int .i64 0, .int .i64 0]]) ∧ Hid (Evs w' (.slice a3 n2 c3) es2) ∧ Hid (w1.grownBy w' none)) := by
        intro w1
        refine (U2.out w1).mono fun e w' h => ?_
        obtain ⟨hg, ⟨c', p', hx, rfl⟩ | ⟨es', a3, c3, hx, he, hevs⟩⟩ := h
        · cases hx
        · simp only [Except.ok.injEq] at hx
          subst hx
          rw [hn2] at he hevs
          exact ⟨a3, c3, he, hevs, hg⟩
      clear U2 T2 T3 P2 hw2 hp2 hn2
      have tok2 : True := trivial
      go_enter Try.func5, Try.ntmps5
      go_wp2_with (first
        | (go_at_call 6; refine (alive_calls _).mono ?_; rintro e w1 ⟨rfl, hg1⟩; have HG1 := Lib.hid hg1.out; clear hg1)
        | (go_at_call 7; refine (A1.out _ HG1.out).mono ?_; rintro e w2 ⟨rfl, hg2⟩; have HG2 := Lib.hid (grown_trans HG1.out hg2.out); clear hg2 A1)
        | (go_at_call 11; refine (U3.out _).mono ?_; rintro e w5 ⟨a5, c5, rfl, HE5, hg5⟩; have HG5 := Lib.hid (grown_trans HG2.out hg5.out); clear hg5 U3)
        | (go_at_call 7; have _t := tok2; refine (P3.out _ _ _ (evs_alloc HE5.out _)).mono ?_; rintro e w6 ⟨rfl, hg6⟩; clear tok2 _t; have HG6 := Lib.hid (grown_trans (grown_alloc HG5.out _) hg6.out); clear hg6))
      go_ret
      exact ⟨rfl, HG6.out⟩


end Go.Proofs.Ytffdglhjfpnbpaa.WTurns
