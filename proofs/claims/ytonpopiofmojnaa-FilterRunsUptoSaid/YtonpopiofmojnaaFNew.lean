/- The filter's small functions: New, Rest, wrong; the references' Wrong, Like, LikeAll, back; equal. -/
import Derived.Test.YtonpopiofmojnaaFRun
namespace Go.Proofs.Ytonpopiofmojnaa.FNew
open Go Go.RowKit Go.Proofs.Ytonpopiofmojnaa.Fl Go.Proofs.Ytonpopiofmojnaa.Fw Go.Proofs.Ytonpopiofmojnaa.Hp Go.Proofs.Ytonpopiofmojnaa.FRun
set_option linter.unusedVariables false

/-- A coefficient is within its bounds. -/
def okc (x : Nat) : Bool := (D.order x 13929633647456944128 == some .gt || D.order x 13929633647456944128 == some .eq) && (D.order x 4706261610602168320 == some .lt || D.order x 4706261610602168320 == some .eq)

theorem format_f64 : FloatKind.f64.format = D := rfl

theorem ret_bool {a b : Bool} (h : a = b) : Ending.returned (.bool a) = .returned (.bool b) := by rw [h]
theorem beq_cast (x y : Nat) : ((x : Int) == (y : Int)) = (x == y) := by rw [Bool.eq_iff_iff]; simp; omega

theorem bits_run (x : Nat) (w : World) : (callFunc 20 #[.float .f64 x]).run Try.prog w = .ok (.value (.int .u64 x)) w := by
  rw [run_callFunc_extern (e := Extern.MathFloatBits.float64bits) Try.func20 (by kernel_rfl) (by kernel_rfl) (by kernel_rfl) (by kernel_rfl)]
  rfl

set_option maxHeartbeats 400000 in
theorem like_calls (x y : Nat) (w : World) : Calls Try.prog 16 #[.float .f64 x, .float .f64 y] w fun e w' => e = .returned (.bool (likeB x y)) ∧ w = w' := by
  have hb := bits_run
  go_enter Try.func16, Try.ntmps16
  go_wp2
  all_goals go_ret
  all_goals refine ⟨ret_bool ?_, rfl⟩
  all_goals simp_all [likeB, format_f64, beq_cast]
  all_goals (left; omega)

set_option maxHeartbeats 400000 in
theorem equal_calls (x y : Nat) (w : World) : Calls Try.prog 12 #[.float .f64 x, .float .f64 y] w fun e w' => e = .returned (.bool (eqB x y)) ∧ w = w' := by
  go_enter Try.func12, Try.ntmps12
  go_wp2
  all_goals go_ret
  all_goals refine ⟨ret_bool ?_, rfl⟩
  all_goals simp_all [eqB, format_f64]

set_option maxHeartbeats 400000 in
theorem wrong_calls (x : Nat) (w : World) : Calls Try.prog 19 #[.float .f64 x] w fun e w' => e = .returned (.bool (!okc x)) ∧ w = w' := by
  go_enter Try.func19, Try.ntmps19
  go_wp2
  all_goals go_ret
  all_goals refine ⟨ret_bool ?_, rfl⟩
  all_goals simp_all [okc, format_f64]

set_option maxHeartbeats 400000 in
theorem back_neg (v : Value) (i : Int) (w : World) (h : i < 0) : Calls Try.prog 17 #[v, .int .i64 i] w fun e w' => e = .returned (.float .f64 0) ∧ w = w' := by
  go_enter Try.func17, Try.ntmps17
  go_wp2
  go_ret
  exact ⟨rfl, rfl⟩

set_option maxHeartbeats 400000 in
theorem back_at (b off len cap : Nat) (x : Nat) (i : Nat) (w : World) (h : i < len) (hl : len < 9223372036854775808) (hc : w.cell? ⟨b, off + i, none⟩ = some (.float .f64 x)) :
    Calls Try.prog 17 #[.slice (some ⟨b, off, none⟩) len cap, .int .i64 i] w fun e w' => e = .returned (.float .f64 x) ∧ w = w' := by
  go_enter Try.func17, Try.ntmps17
  go_wp2
  go_ret
  exact ⟨rfl, rfl⟩

/-- A filter, as it comes to rest. -/
def rest0 : St := ⟨0, 0, 0, 0⟩

theorem cn_zero : cn 0 = 0 := by decide +kernel

def RestPost (w : World) (bp : Nat) (c : Co) (e : Ending) (w' : World) : Prop := e = .returned (.tuple #[]) ∧ FAt w' bp c rest0 ∧ w.grownBy w' (some bp)

set_option maxHeartbeats 400000 in
theorem rest_calls (bp : Nat) (c : Co) (s : St) (w : World) (hf : FAt w bp c s) : Calls Try.prog 14 #[.pointer (some ⟨bp, 0, none⟩)] w fun e w' => RestPost w bp c e w' := by
  obtain ⟨q1, q2, q3, q4, hf, rfl⟩ := hf
  obtain ⟨⟨f0, f1, f2, f3, f4⟩, ⟨f5, f6, f7, f8⟩, f9, f10, f11, f12⟩ := ffacts hf
  have g0 : w.frozen? ⟨bp, 0, none⟩ = false := free_of hf _
  have g1 : w.frozen? ⟨bp, 1, none⟩ = false := free_of hf _
  have g2 : w.frozen? ⟨bp, 2, none⟩ = false := free_of hf _
  have g3 : w.frozen? ⟨bp, 3, none⟩ = false := free_of hf _
  have g4 : w.frozen? ⟨bp, 4, none⟩ = false := free_of hf _
  have HF := Lib.hid hf
  clear hf
  go_enter Try.func14, Try.ntmps14
  go_wp2
  go_end0
  refine ⟨rfl, ⟨0, 0, 0, 0, ?_, by rw [cn_zero]; rfl⟩, ?_⟩
  · unfold FBlk
    have hf := HF.out
    unfold FBlk at hf
    have h := set_self (o := 8) (set_self (o := 7) (set_self (o := 6) (set_self (o := 5) (set_self (o := 4) (set_self (o := 3) (set_self (o := 2) (set_self (o := 1) (set_self (o := 0) hf (.float .f64 c.b0)) (.float .f64 c.b1)) (.float .f64 c.b2)) (.float .f64 c.a1)) (.float .f64 c.a2)) (.float .f64 0)) (.float .f64 0)) (.float .f64 0)) (.float .f64 0)
    simp only [List.setIfInBounds_toArray, List.set_cons_zero, List.set_cons_succ] at h
    exact h
  · iterate 9 refine grown_set ?_ (.inl rfl) _
    exact grown_refl _ _

def cs (c : Co) : Value := .agg #[.float .f64 c.b0, .float .f64 c.b1, .float .f64 c.b2, .float .f64 c.a1, .float .f64 c.a2]
def okAll (c : Co) : Bool := okc c.b0 && okc c.b1 && okc c.b2 && okc c.a1 && okc c.a2

def NewPost (w : World) (c : Co) (e : Ending) (w' : World) : Prop := w.grownBy w' none ∧
  ((okAll c = true ∧ ∃ bp, w.heap.size ≤ bp ∧ e = .returned (.tuple #[.pointer (some ⟨bp, 0, none⟩), .int .i64 0]) ∧ FAt w' bp c rest0) ∨
   (okAll c = false ∧ e = .returned (.tuple #[.pointer none, .int .i64 3])))

theorem new_at (a : World) (o : Obj) (n : Nat) (h : n = a.heap.size) : (a.alloc o).heap[n]? = some o := by subst h; exact heap_alloc_new _ _

set_option maxHeartbeats 1000000 in
theorem new_ok (c : Co) (w : World) (h0 : okc c.b0 = true) (h1 : okc c.b1 = true) (h2 : okc c.b2 = true) (h3 : okc c.a1 = true) (h4 : okc c.a2 = true) :
    Calls Try.prog 13 #[.agg #[.float .f64 c.b0, .float .f64 c.b1, .float .f64 c.b2, .float .f64 c.a1, .float .f64 c.a2]] w fun e w' =>
      e = .returned (.tuple #[.pointer (some ⟨w.heap.size + 2, 0, none⟩), .int .i64 0]) ∧ FAt w' (w.heap.size + 2) c rest0 ∧ w.grownBy w' none := by
  go_enter Try.func13, Try.ntmps13
  go_wp2_with fail
  refine wp_loop_rounds 6 ?_
  go_wp2_with (first
    | rw [rounds_succ]
    | (go_at_call 19; refine (wrong_calls _ _).mono ?_; rintro e w' ⟨rfl, rfl⟩; simp only [h0, h1, h2, h3, h4, Bool.not_true]))
  go_ret2
  refine ⟨rfl, ⟨0, 0, 0, 0, ?_, by rw [cn_zero]; rfl⟩, ?_⟩
  · unfold FBlk
    exact new_at _ _ _ (by simp)
  · exact grown_alloc (grown_alloc (grown_alloc (grown_refl _ _) _) _) _

theorem okAll_cases {c : Co} (h : okAll c = false) : okc c.b0 = false ∨ (okc c.b0 = true ∧ okc c.b1 = false) ∨ (okc c.b0 = true ∧ okc c.b1 = true ∧ okc c.b2 = false) ∨
    (okc c.b0 = true ∧ okc c.b1 = true ∧ okc c.b2 = true ∧ okc c.a1 = false) ∨ (okc c.b0 = true ∧ okc c.b1 = true ∧ okc c.b2 = true ∧ okc c.a1 = true ∧ okc c.a2 = false) := by
  unfold okAll at h
  revert h
  cases okc c.b0 <;> cases okc c.b1 <;> cases okc c.b2 <;> cases okc c.a1 <;> cases okc c.a2 <;> simp

set_option maxHeartbeats 2000000 in
theorem new_no (c : Co) (w : World) (h : okAll c = false) :
    Calls Try.prog 13 #[.agg #[.float .f64 c.b0, .float .f64 c.b1, .float .f64 c.b2, .float .f64 c.a1, .float .f64 c.a2]] w fun e w' =>
      e = .returned (.tuple #[.pointer none, .int .i64 3]) ∧ w.grownBy w' none := by
  rcases okAll_cases h with h0 | ⟨h0, h1⟩ | ⟨h0, h1, h2⟩ | ⟨h0, h1, h2, h3⟩ | ⟨h0, h1, h2, h3, h4⟩ <;> clear h
  all_goals
    go_enter Try.func13, Try.ntmps13
    go_wp2_with fail
    refine wp_loop_rounds 6 ?_
    go_wp2_with (first
      | rw [rounds_succ]
      | (go_at_call 19; refine (wrong_calls _ _).mono ?_; rintro e w' ⟨rfl, rfl⟩; simp only [*, Bool.not_true, Bool.not_false]))
    go_ret2
    exact ⟨rfl, grown_alloc (grown_alloc (grown_refl _ _) _) _⟩

set_option maxHeartbeats 2000000 in
theorem refwrong_ok (c : Co) (w : World) (h : okAll c = true) :
    Calls Try.prog 8 #[.agg #[.float .f64 c.b0, .float .f64 c.b1, .float .f64 c.b2, .float .f64 c.a1, .float .f64 c.a2]] w fun e w' =>
      e = .returned (.bool false) ∧ w.grownBy w' none := by
  unfold okAll at h
  simp only [Bool.and_eq_true] at h
  obtain ⟨⟨⟨⟨h0, h1⟩, h2⟩, h3⟩, h4⟩ := h
  unfold okc at h0 h1 h2 h3 h4
  simp only [Bool.and_eq_true] at h0 h1 h2 h3 h4
  obtain ⟨a0, b0⟩ := h0
  obtain ⟨a1, b1⟩ := h1
  obtain ⟨a2, b2⟩ := h2
  obtain ⟨a3, b3⟩ := h3
  obtain ⟨a4, b4⟩ := h4
  rw [← format_f64] at a0 b0 a1 b1 a2 b2 a3 b3 a4 b4
  go_enter Try.func8, Try.ntmps8
  go_wp2_with fail
  refine wp_loop_rounds 6 ?_
  go_wp2_with (rw [rounds_succ])
  go_ret
  exact ⟨rfl, grown_alloc (grown_alloc (grown_refl _ _) _) _⟩

theorem okc_true {x : Nat} (h : okc x = true) : (FloatKind.f64.format.order x 13929633647456944128 == some .gt || FloatKind.f64.format.order x 13929633647456944128 == some .eq) = true ∧
    (FloatKind.f64.format.order x 4706261610602168320 == some .lt || FloatKind.f64.format.order x 4706261610602168320 == some .eq) = true := by
  unfold okc at h
  simpa [Bool.and_eq_true, format_f64] using h

theorem okc_false {x : Nat} (h : okc x = false) : (FloatKind.f64.format.order x 13929633647456944128 == some .gt || FloatKind.f64.format.order x 13929633647456944128 == some .eq) = false ∨
    ((FloatKind.f64.format.order x 13929633647456944128 == some .gt || FloatKind.f64.format.order x 13929633647456944128 == some .eq) = true ∧
    (FloatKind.f64.format.order x 4706261610602168320 == some .lt || FloatKind.f64.format.order x 4706261610602168320 == some .eq) = false) := by
  unfold okc at h
  rw [format_f64]
  revert h
  generalize (D.order x 13929633647456944128 == some .gt || D.order x 13929633647456944128 == some .eq) = A
  generalize (D.order x 4706261610602168320 == some .lt || D.order x 4706261610602168320 == some .eq) = B
  cases A <;> cases B <;> simp

set_option maxHeartbeats 4000000 in
theorem refwrong_no (c : Co) (w : World) (h : okAll c = false) :
    Calls Try.prog 8 #[.agg #[.float .f64 c.b0, .float .f64 c.b1, .float .f64 c.b2, .float .f64 c.a1, .float .f64 c.a2]] w fun e w' =>
      e = .returned (.bool true) ∧ w.grownBy w' none := by
  rcases okAll_cases h with h0 | ⟨h0, h1⟩ | ⟨h0, h1, h2⟩ | ⟨h0, h1, h2, h3⟩ | ⟨h0, h1, h2, h3, h4⟩ <;> clear h
  · rcases okc_false h0 with a0 | ⟨a0, b0⟩
    all_goals
      clear h0
      go_enter Try.func8, Try.ntmps8
      go_wp2_with fail
      refine wp_loop_rounds 6 ?_
      go_wp2_with (rw [rounds_succ])
      go_ret
      exact ⟨rfl, grown_alloc (grown_alloc (grown_refl _ _) _) _⟩
  · obtain ⟨a0, b0⟩ := okc_true h0
    rcases okc_false h1 with a1 | ⟨a1, b1⟩
    all_goals
      clear h0 h1
      go_enter Try.func8, Try.ntmps8
      go_wp2_with fail
      refine wp_loop_rounds 6 ?_
      go_wp2_with (rw [rounds_succ])
      go_ret
      exact ⟨rfl, grown_alloc (grown_alloc (grown_refl _ _) _) _⟩
  · obtain ⟨a0, b0⟩ := okc_true h0
    obtain ⟨a1, b1⟩ := okc_true h1
    rcases okc_false h2 with a2 | ⟨a2, b2⟩
    all_goals
      clear h0 h1 h2
      go_enter Try.func8, Try.ntmps8
      go_wp2_with fail
      refine wp_loop_rounds 6 ?_
      go_wp2_with (rw [rounds_succ])
      go_ret
      exact ⟨rfl, grown_alloc (grown_alloc (grown_refl _ _) _) _⟩
  · obtain ⟨a0, b0⟩ := okc_true h0
    obtain ⟨a1, b1⟩ := okc_true h1
    obtain ⟨a2, b2⟩ := okc_true h2
    rcases okc_false h3 with a3 | ⟨a3, b3⟩
    all_goals
      clear h0 h1 h2 h3
      go_enter Try.func8, Try.ntmps8
      go_wp2_with fail
      refine wp_loop_rounds 6 ?_
      go_wp2_with (rw [rounds_succ])
      go_ret
      exact ⟨rfl, grown_alloc (grown_alloc (grown_refl _ _) _) _⟩
  · obtain ⟨a0, b0⟩ := okc_true h0
    obtain ⟨a1, b1⟩ := okc_true h1
    obtain ⟨a2, b2⟩ := okc_true h2
    obtain ⟨a3, b3⟩ := okc_true h3
    rcases okc_false h4 with a4 | ⟨a4, b4⟩
    all_goals
      clear h0 h1 h2 h3 h4
      go_enter Try.func8, Try.ntmps8
      go_wp2_with fail
      refine wp_loop_rounds 6 ?_
      go_wp2_with (rw [rounds_succ])
      go_ret
      exact ⟨rfl, grown_alloc (grown_alloc (grown_refl _ _) _) _⟩

/-! LikeAll -/

set_option maxHeartbeats 1000000 in
theorem likeall_len (a b : Option Addr) (la lb ca cb : Nat) (w : World) (h : la ≠ lb) : Calls Try.prog 9 #[.slice a la ca, .slice b lb cb] w fun e w' => e = .returned (.bool false) ∧ w = w' := by
  have h1 : ((la : Int) == (lb : Int)) = false := by simp; omega
  have h2 : ((la : Int) != (lb : Int)) = true := by simp; omega
  go_enter Try.func9, Try.ntmps9
  go_wp2
  go_ret
  exact ⟨rfl, rfl⟩

/-- Two lists of words, held against each other. -/
def likeAll (a b : List Nat) : Bool := decide (a.map cn = b.map cn)

def Quiet (w : World) (v : Value) (e : Ending) (w' : World) : Prop := e = .returned v ∧ ∃ n, w' = w.drewN n

end Go.Proofs.Ytonpopiofmojnaa.FNew
