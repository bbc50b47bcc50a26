/- What is asked of each: measure's own function, IndexFunc, ContainsFunc. -/
import Derived.Test.YthmcicmebaibgaaTEv
namespace Go.Proofs.Ythmcicmebaibgaa.TIdx
open Go Go.RowKit Go.Proofs.Ythmcicmebaibgaa.WMod Go.Proofs.Ythmcicmebaibgaa.TMod Go.Proofs.Ythmcicmebaibgaa.TRead Go.Proofs.Ythmcicmebaibgaa.TSz Go.Proofs.Ythmcicmebaibgaa.Opn Go.Proofs.Ythmcicmebaibgaa.Hp Go.Proofs.Ythmcicmebaibgaa.Rd Go.Proofs.Ythmcicmebaibgaa.TWWrong
set_option linter.unusedVariables false
set_option linter.unusedSimpArgs false

set_option maxHeartbeats 1000000 in
set_option maxRecDepth 100000 in
theorem ask_calls (t l : Int) (ve vs vk : Value) (x y : Int) (sm : Bool) (w : World) :
    Calls Try.prog 29 #[.agg #[.int .i64 t, .int .i64 l, ve, vs, .int .i64 x, .int .i64 y, .bool sm, vk]] w fun e w' => e = .returned (.bool (sm && decide (0 < t))) ∧ Hid (w.grownBy w' none) := by
  have HG : ∀ o, Hid (w.grownBy (w.alloc o) none) := fun o => grown_alloc (grown_refl _ _) _
  cases sm
  · go_enter Try.func29, Try.ntmps29
    go_wp2_with fail
    go_ret
    exact ⟨rfl, (HG _).out⟩
  · by_cases ht : 0 < t
    · have e : decide ((0 : Int) < t) = true := decide_eq_true ht
      rw [e]
      go_enter Try.func29, Try.ntmps29
      go_wp2_with fail
      go_ret
      exact ⟨rfl, (HG _).out⟩
    · have e : decide ((0 : Int) < t) = false := decide_eq_false ht
      rw [e]
      go_enter Try.func29, Try.ntmps29
      go_wp2_with fail
      go_ret
      exact ⟨rfl, (HG _).out⟩

theorem someK_drop : ∀ (f : For) (i : Nat), (∀ j t l evs k r, j < i → f.drop j = .cons t l evs k r → (someS evs k && decide (0 < t)) = false) → someK f = someK (f.drop i)
  | f, 0, _ => rfl
  | .nil, i + 1, _ => rfl
  | .cons t l evs k r, i + 1, h => by
    have h0 := h 0 t l evs k r (by omega) rfl
    unfold someS at h0
    simp only [someK]
    rw [h0, Bool.false_or]
    exact someK_drop r i fun j t' l' evs' k' r' hj hd => h (j + 1) t' l' evs' k' r' (by omega) hd

def IdxPost (f : For) (w : World) (e : Ending) (w' : World) : Prop := ∃ r : Int, e = .returned (.int .i64 r) ∧ (someK f = decide (0 ≤ r)) ∧ w.grownBy w' none

set_option maxHeartbeats 2000000 in
set_option maxRecDepth 100000 in
theorem idx_calls (A : Nat → Prop) (ao : Option Addr) (c : Nat) (f : For) (w : World) (hv : SzV w A (.slice ao f.len c) f) (hm : f.len ≤ 1099511627776) :
    Calls Try.prog 31 #[.slice ao f.len c, .func (.func 29) #[] #[]] w (IdxPost f w) := by
  obtain ⟨n, hn⟩ : ∃ n, f.len = n := ⟨_, rfl⟩
  have HN := Lib.hid hn
  rw [hn] at hv hm ⊢
  have HV := Lib.hid hv
  clear hv hn
  go_enter Try.func31, Try.ntmps31
  go_wp2_with fail
  go_loopw [8] (fun v8 wr => ∃ k : Nat, k ≤ n ∧ v8 = .int .i64 (k : Int) ∧ Hid (someK f = someK (f.drop k)) ∧ Hid (w.grownBy wr none)) (fun v8 _ => n - (intOf v8).toNat)
  case atStart => exact ⟨0, Nat.zero_le _, rfl, rfl, grown_refl _ _⟩
  case round =>
    obtain ⟨k, hk, rfl, HS, HG⟩ := hrel
    by_cases hke : k = n
    · have HX : Hid (someK f = false) := by
        have := HS.out
        unfold Hid at this ⊢
        rw [this, hke, ← HN.out, For.drop_end]
        rfl
      subst hke
      go_wp2_with fail
      go_ret
      exact ⟨-1, rfl, by rw [HX.out]; rfl, HG.out⟩
    have hkl : k < n := by omega
    have hkl2 : (k : Int) < (n : Int) := by omega
    obtain ⟨t, l, evs, kk, r, hd⟩ := For.drop_cons (f := f) (n := k) (by rw [HN.out]; exact hkl)
    obtain ⟨b, o, ve, ⟨sa, sn, sc⟩, vk, rfl, hA, hc, _, _⟩ := szv_at HV.out hd
    have c0 : wr.cell? ⟨b, o + k * 8, none⟩ = some (.int .i64 t) := grown_cell HG.out (hc 0 _ rfl) (by simp)
    have c1 : wr.cell? ⟨b, o + k * 8 + 1, none⟩ = some (.int .i64 l) := grown_cell HG.out (hc 1 _ rfl) (by simp)
    have c2 : wr.cell? ⟨b, o + k * 8 + 2, none⟩ = some ve := grown_cell HG.out (hc 2 _ rfl) (by simp)
    have c3 : wr.cell? ⟨b, o + k * 8 + 3, none⟩ = some (.slice sa sn sc) := grown_cell HG.out (hc 3 _ rfl) (by simp)
    have c4 : wr.cell? ⟨b, o + k * 8 + 4, none⟩ = some (.int .i64 (l + dur kk)) := grown_cell HG.out (hc 4 _ rfl) (by simp)
    have c5 : wr.cell? ⟨b, o + k * 8 + 5, none⟩ = some (.int .i64 (t * (l + dur kk))) := grown_cell HG.out (hc 5 _ rfl) (by simp)
    have c6 : wr.cell? ⟨b, o + k * 8 + 6, none⟩ = some (.bool (someS evs kk)) := grown_cell HG.out (hc 6 _ rfl) (by simp)
    have c7 : wr.cell? ⟨b, o + k * 8 + 7, none⟩ = some vk := grown_cell HG.out (hc 7 _ rfl) (by simp)
    have AC := Lib.hid (fun w' => ask_calls t l ve (.slice sa sn sc) vk (l + dur kk) (t * (l + dur kk)) (someS evs kk) w')
    have HST : Hid (someK f = ((someS evs kk && decide (0 < t)) || someK (f.drop (k + 1)))) := by
      unfold Hid
      rw [For.drop_succ k f hd, HS.out, hd]
      rfl
    obtain ⟨B, hB⟩ : ∃ B, (someS evs kk && decide (0 < t)) = B := ⟨_, rfl⟩
    rw [hB] at HST
    obtain ⟨x, hx⟩ : ∃ x, l + dur kk = x := ⟨_, rfl⟩
    obtain ⟨y, hy⟩ : ∃ y, t * x = y := ⟨_, rfl⟩
    obtain ⟨sm, hsm⟩ : ∃ sm, someS evs kk = sm := ⟨_, rfl⟩
    simp only [hB] at AC
    rw [hx, hsm] at AC
    rw [hx] at c4 c5
    rw [hy] at c5 AC
    rw [hsm] at c6
    clear hB hc hd hx hy hsm hA
    cases B
    · go_wp2_with (go_at_call 29; refine (AC.out _).mono ?_; rintro e w9 ⟨rfl, hg9⟩)
      refine ⟨?_, by simp [intOf]; omega⟩
      first
        | exact ⟨k + 1, by omega, rfl, by unfold Hid; rw [HST.out, Bool.false_or], grown_trans HG.out hg9.out⟩
        | (repeat apply Exists.intro
           refine ⟨?_, rfl⟩
           exact ⟨k + 1, by omega, rfl, by unfold Hid; rw [HST.out, Bool.false_or], grown_trans HG.out hg9.out⟩)
    · go_wp2_with (go_at_call 29; refine (AC.out _).mono ?_; rintro e w9 ⟨rfl, hg9⟩)
      go_ret
      exact ⟨k, rfl, by rw [HST.out, Bool.true_or, decide_eq_true (by omega)], grown_trans HG.out hg9.out⟩

set_option maxHeartbeats 1000000 in
theorem has_calls (A : Nat → Prop) (ao : Option Addr) (c : Nat) (f : For) (w : World) (hv : SzV w A (.slice ao f.len c) f) (hm : f.len ≤ 1099511627776) :
    Calls Try.prog 28 #[.slice ao f.len c, .func (.func 29) #[] #[]] w fun e w' => e = .returned (.bool (someK f)) ∧ Hid (w.grownBy w' none) := by
  have IC := Lib.hid (idx_calls A ao c f w hv hm)
  obtain ⟨n, hn⟩ : ∃ n, f.len = n := ⟨_, rfl⟩
  rw [hn] at IC ⊢
  obtain ⟨B, hB⟩ : ∃ B, someK f = B := ⟨_, rfl⟩
  have HB := Lib.hid hB
  rw [hB]
  clear hv hm hn hB
  go_enter Try.func28, Try.ntmps28
  go_wp2_with (go_at_call 31; refine (IC.out).mono ?_; rintro e w1 ⟨r, rfl, hr, hg⟩; have HRR := Lib.hid hr; have HGG := Lib.hid hg; clear hr hg)
  go_ret
  exact ⟨by rw [← HB.out, HRR.out]; rfl, HGG.out⟩

end Go.Proofs.Ythmcicmebaibgaa.TIdx
