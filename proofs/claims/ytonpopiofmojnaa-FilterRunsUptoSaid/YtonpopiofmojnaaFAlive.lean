/- alive: a closed fact; what the laws ask of a filter's outcome. -/
import Derived.Test.YtonpopiofmojnaaFLaws
import Derived.Test.YtonpopiofmojnaaFLike
namespace Go.Proofs.Ytonpopiofmojnaa.FAlive
open Go Go.RowKit Go.Proofs.Ytonpopiofmojnaa.Fl Go.Proofs.Ytonpopiofmojnaa.Fw Go.Proofs.Ytonpopiofmojnaa.Hp Go.Proofs.Ytonpopiofmojnaa.FRun Go.Proofs.Ytonpopiofmojnaa.FNew Go.Proofs.Ytonpopiofmojnaa.Rd Go.Proofs.Ytonpopiofmojnaa.FStrain
set_option linter.unusedVariables false

set_option maxHeartbeats 1000000 in
theorem alive_calls (w : World) : Calls Try.prog 11 #[] w fun e w' => e = .returned (.bool true) ∧ w.grownBy w' none := by
  go_enter Try.func11, Try.ntmps11
  go_wp2
  go_ret
  exact ⟨rfl, grown_alloc (grown_alloc (grown_alloc (grown_alloc (grown_refl _ _) _) _) _) _⟩

/-- The coefficients, boxed. -/
def Box (w : World) (b : Nat) (c : Co) : Prop := w.heap[b]? = some (.cells #[.float .f64 c.b0, .float .f64 c.b1, .float .f64 c.b2, .float .f64 c.a1, .float .f64 c.a2] 24 (0, 0))

theorem box_facts {w : World} {b : Nat} {c : Co} (h : Box w b c) : w.cell? ⟨b, 0, none⟩ = some (.float .f64 c.b0) ∧ w.cell? ⟨b, 1, none⟩ = some (.float .f64 c.b1) ∧ w.cell? ⟨b, 2, none⟩ = some (.float .f64 c.b2) ∧
    w.cell? ⟨b, 3, none⟩ = some (.float .f64 c.a1) ∧ w.cell? ⟨b, 4, none⟩ = some (.float .f64 c.a2) := by
  unfold Box at h
  refine ⟨?_, ?_, ?_, ?_, ?_⟩ <;> rw [cell_of h] <;> rfl

theorem Box.grown {w w' : World} {b : Nat} {c : Co} (h : Box w b c) (hg : w.grownBy w' none) : Box w' b c := by
  unfold Box at *
  rw [hg.block b (lt_of h) (by simp)]
  exact h

theorem Box.gr {B : Nat} {S : List TypeId} {w w' : World} {b : Nat} {c : Co} (h : Box w b c) (hg : Gr B S w w') (hs : 24 ∉ S) : Box w' b c := hg.keep h hs

/-- A slice of floats, its address open. -/
def In (w : World) (ao : Option Addr) (xs : List Nat) : Prop := ∀ i x, xs[i]? = some x → ∃ b off, ao = some ⟨b, off, none⟩ ∧ w.cell? ⟨b, off + i, none⟩ = some (.float .f64 x)

theorem In.grown {w w' : World} {ao : Option Addr} {xs : List Nat} (h : In w ao xs) (hg : w.grownBy w' none) : In w' ao xs := fun i x hx => let ⟨b, off, h1, h2⟩ := h i x hx; ⟨b, off, h1, hg.cell h2 (by simp)⟩

theorem In.fls {w : World} {ao : Option Addr} {xs : List Nat} {cap : Nat} (h : In w ao xs) : Fls w (.slice ao xs.length cap) xs := by
  cases xs with
  | nil => exact .inr ⟨ao, cap, rfl, rfl⟩
  | cons y l =>
    obtain ⟨b, off, rfl, _⟩ := h 0 y rfl
    refine .inl ⟨b, off, cap, rfl, fun i x hx => ?_⟩
    obtain ⟨b', off', e, h2⟩ := h i x hx
    simp only [Option.some.injEq, Addr.mk.injEq, and_true] at e
    obtain ⟨rfl, rfl⟩ := e
    exact ⟨_, h2, rfl⟩

theorem fls_in {w : World} {v : Value} {xs : List Nat} (h : Fls w v xs) : ∃ ao cap, v = .slice ao xs.length cap ∧ In w ao xs := by
  rcases h with ⟨b, off, cap, rfl, h⟩ | ⟨ao, cap, rfl, rfl⟩
  · exact ⟨some ⟨b, off, none⟩, cap, rfl, fun i x hx => let ⟨u, h1, h2⟩ := h i x hx; ⟨b, off, rfl, by rw [h1, h2]⟩⟩
  · exact ⟨ao, cap, rfl, fun i x hx => by simp at hx⟩

theorem neg_float (x : Nat) : Op.negFloat .f64 x = fneg x := rfl

/-- A new row of slices. -/
theorem lls_new {w : World} {vs : List Value} {xss : List (List Nat)} {t : TypeId} (hl : vs.length = xss.length) (hR : ∀ (i : Nat) (u : Value) (x : List Nat), vs[i]? = some u → xss[i]? = some x → Fls w u x) :
    Lls (w.alloc (.cells vs.toArray t)) (.slice (some ⟨w.heap.size, 0, none⟩) vs.length vs.length) xss := by
  refine .inl ⟨w.heap.size, 0, vs.length, by rw [hl], fun i x hx => ?_⟩
  have hi : i < vs.length := by rw [hl]; exact (List.getElem?_eq_some_iff.1 hx).1
  refine ⟨vs[i], ?_, (hR i _ x (List.getElem?_eq_getElem hi) hx).grown (grown_alloc (grown_refl _ _) _)⟩
  rw [cell_of (heap_alloc_new w _)]
  simp [hi]

theorem Ols.grown {w w' : World} {v : Value} {xss : List (List Nat)} (h : Ols w v xss) (hg : w.grownBy w' none) : Ols w' v xss :=
  Sl.grown h hg fun u x h => Own.gr (B := w.heap.size) (S := []) h (.of_none hg) (by simp)

/-- What Strain answers, where the coefficients are right. -/
theorem strain_yes (c : Co) (v : Value) (rest : Int) (ps : List (List Nat)) (w : World) (hok : okAll c = true) (hv : Lls w v ps) (hsz : ps.length * 24 ≤ 140737488355328) (hps : ∀ p ∈ ps, p.length * 8 ≤ 140737488355328) :
    Calls Try.prog 7 #[.agg #[.float .f64 c.b0, .float .f64 c.b1, .float .f64 c.b2, .float .f64 c.a1, .float .f64 c.a2], v, .int .i64 rest] w fun e w' =>
      ∃ v yss, e = .returned (.tuple #[v, .int .i64 0]) ∧ Hid (Ols w' v yss) ∧ Hid (yss.map (List.map cn) = strains c rest 0 rest0 ps) ∧ Hid (w.grownBy w' none) := by
  refine (strain_calls c v rest ps w hv hsz hps).mono ?_
  rintro e w' ⟨hg, ⟨_, v, yss, rfl, h1, h2⟩ | ⟨h, _⟩⟩
  · exact ⟨v, yss, rfl, h1, h2, hg⟩
  · rw [hok] at h; cases h

theorem strain_not (c : Co) (v : Value) (rest : Int) (ps : List (List Nat)) (w : World) (hok : okAll c = false) :
    Calls Try.prog 7 #[.agg #[.float .f64 c.b0, .float .f64 c.b1, .float .f64 c.b2, .float .f64 c.a1, .float .f64 c.a2], v, .int .i64 rest] w fun e w' =>
      e = .returned (.tuple #[.slice none 0 0, .int .i64 3]) ∧ Hid (w.grownBy w' none) := by
  refine (strain_no c v rest ps w hok).mono ?_
  rintro e w' ⟨hg, ⟨h, _⟩ | ⟨_, rfl⟩⟩
  · rw [hok] at h; cases h
  · exact ⟨rfl, hg⟩

/-- One row that was told, and its cells. -/
def RowAt (w : World) (g : Nat) (ys : List Nat) : Prop := w.heap[g]? = some (.cells (ys.map (Value.float .f64)).toArray 22 (0, 0))

theorem RowAt.cell {w : World} {g : Nat} {ys : List Nat} (h : RowAt w g ys) {i y : Nat} (hy : ys[i]? = some y) : w.cell? ⟨g, i, none⟩ = some (.float .f64 y) := by
  rw [cell_of h]; simp [hy]

theorem RowAt.fls {w : World} {g : Nat} {ys : List Nat} (h : RowAt w g ys) {i y : Nat} (hy : ys[i]? = some y) : w.cell? ⟨g, 0 + i, none⟩ = some (.float .f64 y) := by
  rw [Nat.zero_add]; exact h.cell hy

theorem ols_one {w : World} {v : Value} {y : List Nat} (h : Ols w v [y]) : ∃ b off cap g, v = .slice (some ⟨b, off, none⟩) 1 cap ∧ w.cell? ⟨b, off, none⟩ = some (.slice (some ⟨g, 0, none⟩) y.length y.length) ∧ RowAt w g y := by
  rcases h with ⟨b, off, cap, rfl, h⟩ | ⟨ao, cap, _, h⟩
  · obtain ⟨u, h1, g, rfl, h2⟩ := h 0 y rfl
    exact ⟨b, off, cap, g, rfl, by simpa using h1, h2⟩
  · cases h

theorem ols_two {w : World} {v : Value} {y z : List Nat} (h : Ols w v [y, z]) : ∃ b off cap g k, v = .slice (some ⟨b, off, none⟩) 2 cap ∧ w.cell? ⟨b, off, none⟩ = some (.slice (some ⟨g, 0, none⟩) y.length y.length) ∧
    w.cell? ⟨b, off + 1, none⟩ = some (.slice (some ⟨k, 0, none⟩) z.length z.length) ∧ RowAt w g y ∧ RowAt w k z := by
  rcases h with ⟨b, off, cap, rfl, h⟩ | ⟨ao, cap, _, h⟩
  · obtain ⟨u, h1, g, rfl, h2⟩ := h 0 y rfl
    obtain ⟨u', h1', g', rfl, h2'⟩ := h 1 z rfl
    exact ⟨b, off, cap, g, g', rfl, by simpa using h1, by simpa using h1', h2, h2'⟩
  · cases h

theorem map_one {f : List Nat → List Nat} {yss : List (List Nat)} {a : List Nat} (h : yss.map f = [a]) : ∃ y, yss = [y] ∧ f y = a := by
  match yss, h with
  | [y], h => exact ⟨y, rfl, by simpa using h⟩

theorem map_two {f : List Nat → List Nat} {yss : List (List Nat)} {a b : List Nat} (h : yss.map f = [a, b]) : ∃ y z, yss = [y, z] ∧ f y = a ∧ f z = b := by
  match yss, h with
  | [y, z], h => simp at h; exact ⟨y, z, rfl, h.1, h.2⟩

theorem likeall_rows (g1 g2 n : Nat) (ya yb : List Nat) (w : World) (h1 : RowAt w g1 ya) (h2 : RowAt w g2 yb) (l1 : ya.length = n) (l2 : yb.length = n) (hn : n < 9223372036854775808) (hl : likeAll ya yb = true) :
    Calls Try.prog 9 #[.slice (some ⟨g1, 0, none⟩) n n, .slice (some ⟨g2, 0, none⟩) n n] w fun e w' => e = .returned (.bool true) ∧ ∃ m, w' = w.drewN m := by
  have h := FLike.likeall_walk g1 0 n g2 0 n n ya yb w l1 l2 hn (fun i x hx => h1.fls hx) (fun i x hx => h2.fls hx)
  rw [hl] at h
  exact h.mono fun e w' h => h

/-- LikeAll, of whatever slices. -/
theorem likeall_in (a1 a2 : Option Addr) (c1 c2 n : Nat) (xs ys : List Nat) (w : World) (hx : xs.length = n) (hy : ys.length = n) (hn : n < 9223372036854775808) (h1 : In w a1 xs) (h2 : In w a2 ys) :
    Calls Try.prog 9 #[.slice a1 n c1, .slice a2 n c2] w fun e w' => e = .returned (.bool (likeAll xs ys)) ∧ ∃ m, w' = w.drewN m := by
  cases n with
  | zero =>
    rw [List.eq_nil_of_length_eq_zero hx, List.eq_nil_of_length_eq_zero hy]
    exact (FLike.likeall_nil a1 a2 c1 c2 w).mono fun e w' h => h
  | succ n =>
    obtain ⟨b1, o1, rfl, _⟩ := h1 0 (xs[0]'(by omega)) (List.getElem?_eq_getElem (by omega))
    obtain ⟨b2, o2, rfl, _⟩ := h2 0 (ys[0]'(by omega)) (List.getElem?_eq_getElem (by omega))
    refine (FLike.likeall_walk b1 o1 c1 b2 o2 c2 (n + 1) xs ys w hx hy hn (fun i x hi => ?_) (fun i x hi => ?_)).mono fun e w' h => h
    · obtain ⟨b, o, e, hc⟩ := h1 i x hi
      simp only [Option.some.injEq, Addr.mk.injEq, and_true] at e
      obtain ⟨rfl, rfl⟩ := e
      exact hc
    · obtain ⟨b, o, e, hc⟩ := h2 i x hi
      simp only [Option.some.injEq, Addr.mk.injEq, and_true] at e
      obtain ⟨rfl, rfl⟩ := e
      exact hc

end Go.Proofs.Ytonpopiofmojnaa.FAlive
