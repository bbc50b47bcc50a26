/- Two lists of floats held against each other: LikeAll. -/
import Derived.Test.YtonpopiofmojnaaFNew
namespace Go.Proofs.Ytonpopiofmojnaa.FLike
open Go Go.RowKit Go.Proofs.Ytonpopiofmojnaa.Fl Go.Proofs.Ytonpopiofmojnaa.Fw Go.Proofs.Ytonpopiofmojnaa.Hp Go.Proofs.Ytonpopiofmojnaa.FRun Go.Proofs.Ytonpopiofmojnaa.FNew
set_option linter.unusedVariables false

theorem likeAll_snoc {xs ys : List Nat} {k : Nat} {x y : Nat} (hx : xs[k]? = some x) (hy : ys[k]? = some y) (h : likeAll (xs.take k) (ys.take k) = true) : likeAll (xs.take (k + 1)) (ys.take (k + 1)) = likeB x y := by
  obtain ⟨h1, h2⟩ := List.getElem?_eq_some_iff.1 hx
  obtain ⟨h3, h4⟩ := List.getElem?_eq_some_iff.1 hy
  unfold likeAll at *
  simp only [decide_eq_true_eq] at h
  rw [List.take_succ_eq_append_getElem h1, List.take_succ_eq_append_getElem h3, List.map_append, List.map_append, h, likeB_iff, h2, h4]
  rw [Bool.eq_iff_iff]
  simp

theorem likeAll_take_false {xs ys : List Nat} {k : Nat} (h : likeAll (xs.take k) (ys.take k) = false) : likeAll xs ys = false := by
  unfold likeAll at *
  simp only [decide_eq_false_iff_not] at *
  intro e
  apply h
  rw [List.map_take, List.map_take, e]

theorem to_quiet {f : FuncId} {args : Array Value} {w : World} {n : Nat} {v : Value} (h : Calls Try.prog f args (w.drewN n) fun e w' => e = .returned v ∧ w.drewN n = w') : Calls Try.prog f args (w.drewN n) fun e w'' => e = .returned v ∧ ∃ m, w'' = w.drewN m :=
  Calls.quiet_of_same (h.mono fun _ _ ⟨h1, h2⟩ => ⟨h1, h2.symm⟩)

set_option maxHeartbeats 1000000 in
theorem likeall_walk (b1 o1 c1 b2 o2 c2 n : Nat) (xs ys : List Nat) (w : World) (hx : xs.length = n) (hy : ys.length = n) (hn : n < 9223372036854775808)
    (h1 : ∀ i x, xs[i]? = some x → w.cell? ⟨b1, o1 + i, none⟩ = some (.float .f64 x)) (h2 : ∀ i x, ys[i]? = some x → w.cell? ⟨b2, o2 + i, none⟩ = some (.float .f64 x)) :
    Calls Try.prog 9 #[.slice (some ⟨b1, o1, none⟩) n c1, .slice (some ⟨b2, o2, none⟩) n c2] w fun e w' => Quiet w (.bool (likeAll xs ys)) e w' := by
  go_enter Try.func9, Try.ntmps9
  go_wp2_with fail
  go_loopw [13] (fun i wr => ∃ k m : Nat, k ≤ n ∧ i = .int .i64 k ∧ Hid (wr = w.drewN m) ∧ Hid (likeAll (xs.take k) (ys.take k) = true)) (fun i _ => n - (intOf i).toNat)
  case atStart => exact ⟨0, 0, Nat.zero_le _, rfl, rfl, by unfold Hid likeAll; simp⟩
  case round =>
    obtain ⟨k, m, hk, rfl, hw, HL⟩ := hrel
    by_cases hlt : k < n
    · obtain ⟨x, hxk⟩ : ∃ x, xs[k]? = some x := ⟨xs[k]'(by omega), List.getElem?_eq_getElem (by omega)⟩
      obtain ⟨y, hyk⟩ : ∃ x, ys[k]? = some x := ⟨ys[k]'(by omega), List.getElem?_eq_getElem (by omega)⟩
      have f1 : wr.cell? ⟨b1, o1 + k, none⟩ = some (.float .f64 x) := by rw [hw.out]; exact h1 k x hxk
      have f2 : wr.cell? ⟨b2, o2 + k, none⟩ = some (.float .f64 y) := by rw [hw.out]; exact h2 k y hyk
      have HS := Lib.hid (likeAll_snoc hxk hyk HL.out)
      have HX := Lib.hid hx
      have HY := Lib.hid hy
      clear hx hy h1 h2 hxk hyk
      by_cases hl : likeB x y = true
      · go_wp2_with fail
        go_quiet ((go_at_call 16; exact to_quiet (like_calls _ _ _)))
        simp only [hl]
        go_wp2_with fail
        go_roundw
        case rel => exact ⟨k + 1, m + nq, by omega, by go_num, by unfold Hid; rw [hw.out, World.drewN_drewN], by unfold Hid; rw [HS.out]; exact hl⟩
        case measure => simp [intOf]; omega
      · have hl' : likeB x y = false := by simpa using hl
        clear hl
        go_wp2_with fail
        go_quiet ((go_at_call 16; exact to_quiet (like_calls _ _ _)))
        simp only [hl']
        go_wp2_with fail
        go_ret
        have h0 : likeAll xs ys = false := likeAll_take_false (k := k + 1) (by rw [HS.out]; exact hl')
        rw [h0]
        exact ⟨rfl, m + nq, by rw [hw.out, World.drewN_drewN]⟩
    · obtain rfl : k = n := by omega
      have h0 : Hid (likeAll xs ys = true) := by
        have := HL.out
        rwa [List.take_of_length_le (by omega), List.take_of_length_le (by omega)] at this
      clear hx hy h1 h2
      go_wp2_with fail
      go_ret
      rw [h0.out]
      exact ⟨rfl, _, hw.out⟩

set_option maxHeartbeats 1000000 in
theorem likeall_nil (a1 a2 : Option Addr) (c1 c2 : Nat) (w : World) :
    Calls Try.prog 9 #[.slice a1 0 c1, .slice a2 0 c2] w fun e w' => Quiet w (.bool (likeAll [] [])) e w' := by
  go_enter Try.func9, Try.ntmps9
  go_wp2_with fail
  refine wp_loop_once ?_
  go_wp2_with fail
  go_ret
  exact ⟨rfl, 0, rfl⟩

end Go.Proofs.Ytonpopiofmojnaa.FLike
