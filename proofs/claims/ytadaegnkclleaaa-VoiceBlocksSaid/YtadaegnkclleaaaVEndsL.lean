/- VoiceEnds: it returns true. -/
import Derived.Test.YtadaegnkclleaaaVSing
namespace Go.Proofs.Ytadaegnkclleaaa.VEndsL
open Go Ieee Go.RowKit Go.Proofs.Ytadaegnkclleaaa.Rnd Go.Proofs.Ytadaegnkclleaaa.Flo Go.Proofs.Ytadaegnkclleaaa.Flc Go.Proofs.Ytadaegnkclleaaa.VTab Go.Proofs.Ytadaegnkclleaaa.VSin Go.Proofs.Ytadaegnkclleaaa.VShape Go.Proofs.Ytadaegnkclleaaa.VStepF Go.Proofs.Ytadaegnkclleaaa.VMod Go.Proofs.Ytadaegnkclleaaa.VWalk Go.Proofs.Ytadaegnkclleaaa.VLevel Go.Proofs.Ytadaegnkclleaaa.VRender Go.Proofs.Ytadaegnkclleaaa.VSing Go.Proofs.Ytadaegnkclleaaa.Hp Go.Proofs.Ytadaegnkclleaaa.Rd
set_option linter.unusedVariables false

theorem off_run {p : Pt} {s : St} (h0 : 0 ≤ s.off) : ∀ k : Nat, s.off + k ≤ 16777217 → (after p k s).off = s.off + k := by
  intro k
  induction k with
  | zero => intro _; simp [after]
  | succ k ih =>
    intro h
    rw [after_succ]
    have := ih (by omega)
    show (if 0 ≤ (after p k s).off ∧ (after p k s).off ≤ 16777216 then (after p k s).off + 1 else (after p k s).off) = _
    rw [this, if_pos (by omega)]
    omega

theorem off_held {p : Pt} {s : St} (h : s.off = -1) (k : Nat) : (after p k s).off = -1 := by
  induction k with
  | zero => exact h
  | succ k ih =>
    rw [after_succ]
    show (if 0 ≤ (after p k s).off ∧ (after p k s).off ≤ 16777216 then (after p k s).off + 1 else (after p k s).off) = _
    rw [ih, if_neg (by omega)]

theorem off_ge {p : Pt} {s : St} {r : Int} (h : r ≤ s.off) (k : Nat) : r ≤ (after p k s).off := by
  induction k with
  | zero => exact h
  | succ k ih =>
    rw [after_succ]
    show r ≤ (if 0 ≤ (after p k s).off ∧ (after p k s).off ≤ 16777216 then (after p k s).off + 1 else (after p k s).off)
    split <;> omega

theorem smp_zero {p : Pt} {s : St} (hp : OkP p) (hs : OkS s) (h : p.rel ≤ s.off) : FloatKind.f64.format.order (smp p s) 0 = some .eq := by
  obtain ⟨y, q, z, h1, h2, h3, h4, h5, h6, h7⟩ := smp_some hp hs
  have hl : levelZ p s = 0 := by unfold levelZ; rw [if_pos h]
  rw [hl] at h2
  have hq : D.div (FloatKind.f64.nearest 0) c20 = some 0 := by decide +kernel
  rw [hq] at h2
  obtain rfl := Option.some.inj h2
  have tf := V_f24
  obtain ⟨z', g1, g2, _⟩ := mul_leE bias_is (x := y) (y := 0) (r := 0) (by omega) (by decide) (by decide) (by rw [show rg 0 = 0 from rfl, V_zero]; simp)
  rw [h3] at g1
  obtain rfl := Option.some.inj g1
  rw [h4]
  have z0 : rg z = 0 := by omega
  rw [order_sv (by rw [z0]; decide) (by decide), sv_pos (.inr z0), show sv 0 = 0 from by decide +kernel, z0, V_zero]
  rfl

/-- The third piece: silence. -/
theorem silence {p : Pt} (hp : OkP p) {n r m : Nat} (hr : p.rel = r) (hr1 : 1 ≤ r) (hr2 : r ≤ 2000) (hn : n ≤ 2000) (hm : m ≤ 2000) :
    ∃ a b c, outsP p st0 [(n : Int), -(r : Int), (m : Int)] = [a, b, c] ∧ c.length = m ∧ ∀ x ∈ c, FloatKind.f64.format.order x 0 = some .eq := by
  refine ⟨_, _, _, rfl, ?_, ?_⟩
  · have hg : goodN (m : Int) = true := by unfold goodN askN; rw [if_neg (by omega)]; simp; omega
    unfold outP
    rw [hg]
    simp only [if_true]
    rw [play_len]
    unfold askN
    rw [if_neg (by omega)]
    omega
  · have hg : goodN (m : Int) = true := by unfold goodN askN; rw [if_neg (by omega)]; simp; omega
    have hgn : goodN (n : Int) = true := by unfold goodN askN; rw [if_neg (by omega)]; simp; omega
    have hgr : goodN (-(r : Int)) = true := by unfold goodN askN; rw [if_pos (by omega), if_neg (by omega)]; simp; omega
    have ha : askN (-(r : Int)) = r := by unfold askN; rw [if_pos (by omega), if_neg (by omega)]; omega
    have han : askN (n : Int) = n := by unfold askN; rw [if_neg (by omega)]
    have ham : askN (m : Int) = m := by unfold askN; rw [if_neg (by omega)]
    have e1 : nextP p st0 (n : Int) = after p n st0 := by
      have hf : fromS p st0 (n : Int) = st0 := by unfold fromS; rw [if_neg (by omega)]
      unfold nextP
      rw [if_pos hgn, han, hf, Int.toNat_natCast]
    rw [e1]
    have o1 : (after p n st0).off = -1 := off_held rfl n
    have k1 : OkS (after p n st0) := after_ok st0_ok n
    have e2 : nextP p (after p n st0) (-(r : Int)) = after p r (offS p (after p n st0)) := by
      have hf : fromS p (after p n st0) (-(r : Int)) = offS p (after p n st0) := by unfold fromS; rw [if_pos (by omega)]
      unfold nextP
      rw [if_pos hgr, ha, hf, Int.toNat_natCast]
    rw [e2]
    have k2 : OkS (offS p (after p n st0)) := off_ok hp k1
    have o2 : (offS p (after p n st0)).off = 0 := by unfold offS; rw [if_pos (by omega)]
    have o3 : (after p r (offS p (after p n st0))).off = r := by rw [off_run (by omega) r (by omega), o2]; omega
    have k3 : OkS (after p r (offS p (after p n st0))) := after_ok k2 r
    generalize after p r (offS p (after p n st0)) = s at *
    intro x hx
    have hout : outP p s (m : Int) = (play p m s).1 := by
      have hf : fromS p s (m : Int) = s := by unfold fromS; rw [if_neg (by omega)]
      unfold outP
      rw [if_pos hg, ham, hf, Int.toNat_natCast]
    rw [hout] at hx
    obtain ⟨i, hi⟩ := List.getElem?_of_mem hx
    have him : i < m := by
      have := (List.getElem?_eq_some_iff.1 hi).1
      rwa [play_len] at this
    rw [play_get p m s i him] at hi
    obtain rfl := Option.some.inj hi
    exact smp_zero hp (after_ok k3 i) (off_ge (by omega) i)

theorem one_one : FloatKind.f64.format.order 4607182418800017408 4607182418800017408 = some .eq := by decide +kernel

set_option maxHeartbeats 400000 in
theorem alive_calls (w : World) : Calls Try.prog 15 #[] w fun e w' => e = .returned (.bool true) ∧ w = w' := by
  have A := Lib.hid (fun w => shape_calls 3 0 w (by decide))
  rw [show shapeW 3 0 = 4607182418800017408 from by decide +kernel, show shapeE 3 = 0 from by decide] at A
  have h1 := one_one
  go_enter Try.func15, Try.ntmps15
  go_wp2_with (go_at_call 11; refine (A.out _).mono ?_; rintro e w1 ⟨rfl, rfl⟩)
  go_ret
  exact ⟨rfl, rfl⟩

set_option maxHeartbeats 2000000 in
set_option maxRecDepth 100000 in
theorem law (p : Pt) (n more : Int) (w : World) (hst : p.step < 4294967296) :
    Calls Try.prog 5 #[.agg #[.int .i64 p.shape, .int .u32 p.step, .float .f64 p.gain, .int .i64 p.att, .int .i64 p.dec, .int .i64 p.rel, .int .i64 p.sus], .int .i64 n, .int .i64 more] w fun e w' => e = .returned (.bool true) ∧ Hid (w.grownBy w' none) := by
  have SG := Lib.hid (fun v ns w h1 h2 h3 => sing_calls p v ns w hst h1 h2 h3)
  have SL := Lib.hid (fun (hp : OkP p) (n r m : Nat) (hr : p.rel = r) => silence hp (n := n) (r := r) (m := m) hr)
  have OK := Lib.hid (fun h => okP_of (p := p) h)
  obtain ⟨shape, step, gain, att, dec, rel, sus⟩ := p
  simp only at hst SG SL
  have HGA : Hid (w.grownBy (w.alloc (.cells #[.int .i64 shape, .int .u32 step, .float .f64 gain, .int .i64 att, .int .i64 dec, .int .i64 rel, .int .i64 sus] 33)) none) := grown_alloc (grown_refl _ _) _
  by_cases q1 : n < 0
  · clear SG SL OK
    go_enter Try.func5, Try.ntmps5
    go_wp2_with (go_at_call 15; refine (alive_calls _).mono ?_; rintro e w1 ⟨rfl, rfl⟩)
    go_ret
    exact ⟨rfl, HGA⟩
  by_cases q2 : 2000 < n
  · clear SG SL OK
    go_enter Try.func5, Try.ntmps5
    go_wp2_with (go_at_call 15; refine (alive_calls _).mono ?_; rintro e w1 ⟨rfl, rfl⟩)
    go_ret
    exact ⟨rfl, HGA⟩
  by_cases q3 : rel < 1
  · clear SG SL OK
    go_enter Try.func5, Try.ntmps5
    go_wp2_with (go_at_call 15; refine (alive_calls _).mono ?_; rintro e w1 ⟨rfl, rfl⟩)
    go_ret
    exact ⟨rfl, HGA⟩
  by_cases q4 : 2000 < rel
  · clear SG SL OK
    go_enter Try.func5, Try.ntmps5
    go_wp2_with (go_at_call 15; refine (alive_calls _).mono ?_; rintro e w1 ⟨rfl, rfl⟩)
    go_ret
    exact ⟨rfl, HGA⟩
  by_cases q5 : more < 0
  · clear SG SL OK
    go_enter Try.func5, Try.ntmps5
    go_wp2_with (go_at_call 15; refine (alive_calls _).mono ?_; rintro e w1 ⟨rfl, rfl⟩)
    go_ret
    exact ⟨rfl, HGA⟩
  by_cases q6 : 2000 < more
  · clear SG SL OK
    go_enter Try.func5, Try.ntmps5
    go_wp2_with (go_at_call 15; refine (alive_calls _).mono ?_; rintro e w1 ⟨rfl, rfl⟩)
    go_ret
    exact ⟨rfl, HGA⟩
  obtain ⟨n, rfl⟩ : ∃ k : Nat, n = k := ⟨n.toNat, by omega⟩
  obtain ⟨more, rfl⟩ : ∃ k : Nat, more = k := ⟨more.toNat, by omega⟩
  obtain ⟨r, rfl⟩ : ∃ k : Nat, rel = k := ⟨rel.toNat, by omega⟩
  have SL2 := Lib.hid (fun hp => SL.out hp n r more rfl (by omega) (by omega) (by omega) (by omega))
  clear SL
  have hils : Ils ((w.alloc (.cells #[.int .i64 shape, .int .u32 step, .float .f64 gain, .int .i64 att, .int .i64 dec, .int .i64 (r : Int), .int .i64 sus] 33)).alloc (.cells #[.int .i64 (n : Int), .int .i64 (-(r : Int)), .int .i64 (more : Int)] 3)) (.slice (some ⟨w.heap.size + 1, 0, none⟩) 3 3) [(n : Int), -(r : Int), (more : Int)] := by
    have hsz : (w.alloc (.cells #[.int .i64 shape, .int .u32 step, .float .f64 gain, .int .i64 att, .int .i64 dec, .int .i64 (r : Int), .int .i64 sus] 33)).heap.size = w.heap.size + 1 := by simp
    have hnew := heap_alloc_new (w.alloc (.cells #[.int .i64 shape, .int .u32 step, .float .f64 gain, .int .i64 att, .int .i64 dec, .int .i64 (r : Int), .int .i64 sus] 33)) (.cells #[.int .i64 (n : Int), .int .i64 (-(r : Int)), .int .i64 (more : Int)] 3)
    rw [hsz] at hnew
    refine .inl ⟨w.heap.size + 1, 0, 3, rfl, fun i x hx => ⟨.int .i64 x, ?_, rfl⟩⟩
    rw [Nat.zero_add, cell_of hnew]
    match i, hx with
    | 0, hx => simp at hx; subst hx; rfl
    | 1, hx => simp at hx; subst hx; rfl
    | 2, hx => simp at hx; subst hx; rfl
    | i + 3, hx => simp at hx
  have S1 := Lib.hid (SG.out _ _ _ hils (by intro x hx; simp at hx; omega) (by simp))
  have HGB : Hid (w.grownBy ((w.alloc (.cells #[.int .i64 shape, .int .u32 step, .float .f64 gain, .int .i64 att, .int .i64 dec, .int .i64 (r : Int), .int .i64 sus] 33)).alloc (.cells #[.int .i64 (n : Int), .int .i64 (-(r : Int)), .int .i64 (more : Int)] 3)) none) := grown_alloc HGA.out _
  clear SG hils HGA
  go_enter Try.func5, Try.ntmps5
  go_wp2_with (go_at_call 15; refine (alive_calls _).mono ?_; rintro e w1 ⟨rfl, rfl⟩)
  refine (S1.out).mono ?_
  rintro e w1 ⟨hg1, ⟨hbad, rfl⟩ | ⟨hok, vo, ve, rfl, hvo, _⟩⟩
  · have HG1 := Lib.hid (grown_trans HGB.out hg1.out)
    obtain ⟨x, hx⟩ : ∃ x, wrongP ⟨shape, step, gain, att, dec, (r : Int), sus⟩ = x := ⟨_, rfl⟩
    rw [hx] at hbad ⊢
    have hb2 : (x != 0) = true := by simpa using hbad
    clear hg1 hbad hx S1 HGB SL2 OK
    go_wp2_with fail
    go_ret
    exact ⟨rfl, HG1.out⟩
  · have HG1 := Lib.hid (grown_trans HGB.out hg1.out)
    obtain ⟨ya, yb, yc, hys, hyl, hyz⟩ := SL2.out (OK.out hok)
    rw [hys] at hvo
    obtain ⟨ao, co, hvo2, hel⟩ := sl_open hvo.out
    obtain ⟨b2, o2, u2, hao, hc2, hp2⟩ := hel 2 yc rfl
    obtain ⟨a3, c3, hu2, hel3⟩ := sl_open hp2.fls
    subst hvo2 hao hu2
    rw [hyl] at hc2
    simp only [List.length_cons, List.length_nil] at *
    have HEL3 := Lib.hid hel3
    have HYL := Lib.hid hyl
    have HYZ := Lib.hid hyz
    clear hg1 hok hvo hel hp2 hel3 hys hyl hyz S1 HGB SL2 OK
    go_wp2_with fail
    go_loop [67] (fun i => ∃ k : Nat, k ≤ more ∧ i = .int .i64 k) (fun i => more - (intOf i).toNat)
    case atStart => exact ⟨0, Nat.zero_le _, rfl⟩
    case round =>
      obtain ⟨k, hk, rfl⟩ := hrel
      by_cases hlt : k < more
      · obtain ⟨x, hx⟩ : ∃ x, yc[k]? = some x := ⟨yc[k]'(by rw [HYL.out]; exact hlt), List.getElem?_eq_getElem _⟩
        obtain ⟨b4, o4, u4, ha4, hc4, hu4⟩ := HEL3.out k x hx
        subst ha4 hu4
        have hz := HYZ.out x (List.mem_of_getElem? hx)
        clear hx
        go_wp2_with fail
        go_round
        case rel => exact ⟨k + 1, by omega, by go_num⟩
        case measure => simp [intOf]; omega
      · obtain rfl : k = more := by omega
        go_wp2_with fail
        go_ret
        exact ⟨rfl, HG1.out⟩

end Go.Proofs.Ytadaegnkclleaaa.VEndsL
