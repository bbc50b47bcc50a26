/- VoiceBound: it returns true. -/
import Derived.Test.YtadaegnkclleaaaVBnd
import Derived.Test.YtadaegnkclleaaaVEndsL
namespace Go.Proofs.Ytadaegnkclleaaa.VBndL
open Go Ieee Go.RowKit Go.Proofs.Ytadaegnkclleaaa.Rnd Go.Proofs.Ytadaegnkclleaaa.Flo Go.Proofs.Ytadaegnkclleaaa.Flc Go.Proofs.Ytadaegnkclleaaa.VTab Go.Proofs.Ytadaegnkclleaaa.VSine Go.Proofs.Ytadaegnkclleaaa.VSin Go.Proofs.Ytadaegnkclleaaa.VShape Go.Proofs.Ytadaegnkclleaaa.VStepF Go.Proofs.Ytadaegnkclleaaa.VMod Go.Proofs.Ytadaegnkclleaaa.VWalk Go.Proofs.Ytadaegnkclleaaa.VLevel Go.Proofs.Ytadaegnkclleaaa.VRender Go.Proofs.Ytadaegnkclleaaa.VSing Go.Proofs.Ytadaegnkclleaaa.VBnd Go.Proofs.Ytadaegnkclleaaa.VEndsL Go.Proofs.Ytadaegnkclleaaa.Hp Go.Proofs.Ytadaegnkclleaaa.Rd
set_option linter.unusedVariables false

theorem play_mem {p : Pt} (hp : OkP p) {m : Nat} {s : St} (hs : OkS s) {x : Nat} (hx : x ∈ (play p m s).1) : rg x ≤ rg p.gain := by
  obtain ⟨i, hi⟩ := List.getElem?_of_mem hx
  have him : i < m := by
    have := (List.getElem?_eq_some_iff.1 hi).1
    rwa [play_len] at this
  rw [play_get p m s i him] at hi
  obtain rfl := Option.some.inj hi
  exact smp_within hp (after_ok hs i)

/-- The two pieces: no sample louder than the gain. -/
theorem pieces {p : Pt} (hp : OkP p) {n r : Nat} (hr1 : 1 ≤ r) (hr2 : r ≤ 2000) (hn : n ≤ 2000) :
    ∃ a b, outsP p st0 [(n : Int), -(r : Int)] = [a, b] ∧ a.length = n ∧ b.length = r ∧ (∀ x ∈ a, rg x ≤ rg p.gain) ∧ ∀ x ∈ b, rg x ≤ rg p.gain := by
  have hgn : goodN (n : Int) = true := by unfold goodN askN; rw [if_neg (by omega)]; simp; omega
  have hgr : goodN (-(r : Int)) = true := by unfold goodN askN; rw [if_pos (by omega), if_neg (by omega)]; simp; omega
  have ha : askN (-(r : Int)) = r := by unfold askN; rw [if_pos (by omega), if_neg (by omega)]; omega
  have han : askN (n : Int) = n := by unfold askN; rw [if_neg (by omega)]
  have hf : fromS p st0 (n : Int) = st0 := by unfold fromS; rw [if_neg (by omega)]
  have e1 : nextP p st0 (n : Int) = after p n st0 := by
    unfold nextP
    rw [if_pos hgn, han, hf, Int.toNat_natCast]
  have k1 : OkS (after p n st0) := after_ok st0_ok n
  have k2 : OkS (offS p (after p n st0)) := off_ok hp k1
  have o1 : outP p st0 (n : Int) = (play p n st0).1 := by
    unfold outP
    rw [if_pos hgn, han, hf, Int.toNat_natCast]
  have o2 : outP p (after p n st0) (-(r : Int)) = (play p r (offS p (after p n st0))).1 := by
    have hf : fromS p (after p n st0) (-(r : Int)) = offS p (after p n st0) := by unfold fromS; rw [if_pos (by omega)]
    unfold outP
    rw [if_pos hgr, ha, hf, Int.toNat_natCast]
  refine ⟨outP p st0 (n : Int), outP p (nextP p st0 (n : Int)) (-(r : Int)), rfl, ?_⟩
  rw [e1, o1, o2]
  exact ⟨play_len .., play_len .., fun x hx => play_mem hp st0_ok hx, fun x hx => play_mem hp k2 hx⟩

/-- What the law takes for the loudest. -/
theorem loudest {g : Nat} (hg : gainB g = true) : (FloatKind.f64.format.order g 0 = some .lt ∧ ∃ m, fneg g = m ∧ rg m = rg g ∧ rg m < top ∧ (sg m = false ∨ rg m = 0)) ∨
    ((FloatKind.f64.format.order g 0 = some .gt ∨ FloatKind.f64.format.order g 0 = some .eq) ∧ rg g < top ∧ (sg g = false ∨ rg g = 0)) := by
  have h := gain_le hg
  have c1 := V_c20
  have ht : rg g < top := by omega
  have z1 : sv 0 = 0 := by decide +kernel
  have o0 := order_sv ht (show rg 0 < top from by decide)
  rw [z1] at o0
  by_cases hs : sg g = false ∨ rg g = 0
  · right
    refine ⟨?_, ht, hs⟩
    rw [o0]
    rcases cmp_ge (a := sv g) (b := 0) (by rw [sv_pos hs]; omega) with e | e <;> rw [e] <;> simp
  · left
    have h1 : sg g = true := by cases hh : sg g <;> simp_all
    have h2 : 0 < rg g := by omega
    have h3 := V_lt h2
    rw [V_zero] at h3
    have h4 : sv g < 0 := by
      unfold sv signed
      rw [h1]
      simp
      omega
    refine ⟨by rw [o0, cmp_lt h4], _, rfl, rg_neg g, by rw [rg_neg]; exact ht, .inl ?_⟩
    rw [sg_neg, h1]; rfl

theorem wrap_half (ph : Nat) : IntKind.u32.wrap ((ph : Int) + 2147483648) = (((ph + 2147483648) % 4294967296 : Nat) : Int) := by
  rw [← wrap_u32]; rfl

set_option maxHeartbeats 2000000 in
set_option maxRecDepth 100000 in
theorem law (p : Pt) (n off : Int) (ph : Nat) (w : World) (hst : p.step < 4294967296) (hph : ph < 4294967296) :
    Calls Try.prog 4 #[.agg #[.int .i64 p.shape, .int .u32 p.step, .float .f64 p.gain, .int .i64 p.att, .int .i64 p.dec, .int .i64 p.rel, .int .i64 p.sus], .int .i64 n, .int .i64 off, .int .u32 ph] w fun e w' => e = .returned (.bool true) ∧ Hid (w.grownBy w' none) := by
  have SG := Lib.hid (fun v ns w h1 h2 h3 => sing_calls p v ns w hst h1 h2 h3)
  have PC := Lib.hid (fun (hp : OkP p) (n r : Nat) => pieces hp (n := n) (r := r))
  have OK := Lib.hid (fun h => okP_of (p := p) h)
  have SH := Lib.hid (fun k w => shape_calls k ph w hph)
  have SW := Lib.hid (fun k => wave_within k ph hph)
  have HO := half_on ph hph
  have S1 := Lib.hid (fun w => sine_calls ((ph + 2147483648) % 4294967296) w (by omega))
  have S2 := Lib.hid (fun w => sine_calls ph w hph)
  have HW := wrap_half ph
  obtain ⟨qh, hqh⟩ : ∃ qh, (ph + 2147483648) % 4294967296 = qh := ⟨_, rfl⟩
  rw [hqh] at HO S1 HW
  obtain ⟨s1, hs1⟩ : ∃ s, sineW qh = s := ⟨_, rfl⟩
  obtain ⟨s2, hs2⟩ : ∃ s, sineW ph = s := ⟨_, rfl⟩
  obtain ⟨s3, hs3⟩ : ∃ s, fneg s2 = s := ⟨_, rfl⟩
  rw [hs1] at S1 HO
  rw [hs2] at S2 HO
  rw [hs3] at HO
  obtain ⟨shape, step, gain, att, dec, rel, sus⟩ := p
  simp only at hst SG PC
  clear hqh hs1 hs2
  have HGA : Hid (w.grownBy (w.alloc (.cells #[.int .i64 shape, .int .u32 step, .float .f64 gain, .int .i64 att, .int .i64 dec, .int .i64 rel, .int .i64 sus] 33)) none) := grown_alloc (grown_refl _ _) _
  go_enter Try.func4, Try.ntmps4
  go_wp2_with (go_at_call 15; refine (alive_calls _).mono ?_; rintro e w1 ⟨rfl, rfl⟩)
  go_loop [9] (fun i => ∃ k : Nat, 1 ≤ k ∧ k ≤ 5 ∧ i = .int .i64 k) (fun i => 5 - (intOf i).toNat)
  case atStart => exact ⟨1, by omega, by omega, rfl⟩
  case round =>
    obtain ⟨k, hk1, hk5, rfl⟩ := hrel
    by_cases hk : k ≤ 4
    · have a0 : (k : Int) ≤ 4 := by omega
      have C := SH.out k
      obtain ⟨b1, b2⟩ := SW.out k
      have he : shapeE k = 0 := by unfold shapeE; rw [if_pos (by omega)]
      rw [he] at C
      obtain ⟨x, hx⟩ : ∃ x, shapeW k ph = x := ⟨_, rfl⟩
      simp only [hx] at C b1 b2
      have CH := Lib.hid C
      clear C hx he SH SW SG PC OK S1 S2 HO HW HGA hst
      have d1 : (FloatKind.f64.format.order x 13830554455654793216 == some .gt || FloatKind.f64.format.order x 13830554455654793216 == some .eq) = true := by rcases b1 with h | h <;> rw [h] <;> rfl
      have d2 : (FloatKind.f64.format.order x 4607182418800017408 == some .lt || FloatKind.f64.format.order x 4607182418800017408 == some .eq) = true := by rcases b2 with h | h <;> rw [h] <;> rfl
      clear b1 b2
      go_wp2_with (go_at_call 11; refine (CH.out _).mono ?_; rintro e w1 ⟨rfl, rfl⟩)
      go_round
      case rel => exact ⟨k + 1, by omega, by omega, by go_num⟩
      case measure => simp [intOf]; omega
    · obtain rfl : k = 5 := by omega
      clear SH SW
      go_wp2_with fail
      refine (S1.out _).mono ?_
      rintro e w1 ⟨rfl, rfl⟩
      go_wp2_with fail
      refine (S2.out _).mono ?_
      rintro e w1 ⟨rfl, rfl⟩
      clear S1 S2 HW
      by_cases q1 : n < 0
      · clear SG PC OK
        go_wp2_with fail
        go_ret
        exact ⟨rfl, HGA⟩
      by_cases q2 : 2000 < n
      · clear SG PC OK
        go_wp2_with fail
        go_ret
        exact ⟨rfl, HGA⟩
      by_cases q3 : off < 1
      · clear SG PC OK
        go_wp2_with fail
        go_ret
        exact ⟨rfl, HGA⟩
      by_cases q4 : 2000 < off
      · clear SG PC OK
        go_wp2_with fail
        go_ret
        exact ⟨rfl, HGA⟩
      obtain ⟨n, rfl⟩ : ∃ k : Nat, n = k := ⟨n.toNat, by omega⟩
      obtain ⟨r, rfl⟩ : ∃ k : Nat, off = k := ⟨off.toNat, by omega⟩
      have PC2 := Lib.hid (fun hp => PC.out hp n r (by omega) (by omega) (by omega))
      clear PC
      have hils : Ils ((w.alloc (.cells #[.int .i64 shape, .int .u32 step, .float .f64 gain, .int .i64 att, .int .i64 dec, .int .i64 rel, .int .i64 sus] 33)).alloc (.cells #[.int .i64 (n : Int), .int .i64 (-(r : Int))] 3)) (.slice (some ⟨w.heap.size + 1, 0, none⟩) 2 2) [(n : Int), -(r : Int)] := by
        have hsz : (w.alloc (.cells #[.int .i64 shape, .int .u32 step, .float .f64 gain, .int .i64 att, .int .i64 dec, .int .i64 rel, .int .i64 sus] 33)).heap.size = w.heap.size + 1 := by simp
        have hnew := heap_alloc_new (w.alloc (.cells #[.int .i64 shape, .int .u32 step, .float .f64 gain, .int .i64 att, .int .i64 dec, .int .i64 rel, .int .i64 sus] 33)) (.cells #[.int .i64 (n : Int), .int .i64 (-(r : Int))] 3)
        rw [hsz] at hnew
        refine .inl ⟨w.heap.size + 1, 0, 2, rfl, fun i x hx => ⟨.int .i64 x, ?_, rfl⟩⟩
        rw [Nat.zero_add, cell_of hnew]
        match i, hx with
        | 0, hx => simp at hx; subst hx; rfl
        | 1, hx => simp at hx; subst hx; rfl
        | i + 2, hx => simp at hx
      have SN := Lib.hid (SG.out _ _ _ hils (by intro x hx; simp at hx; omega) (by simp))
      have HGB : Hid (w.grownBy ((w.alloc (.cells #[.int .i64 shape, .int .u32 step, .float .f64 gain, .int .i64 att, .int .i64 dec, .int .i64 rel, .int .i64 sus] 33)).alloc (.cells #[.int .i64 (n : Int), .int .i64 (-(r : Int))] 3)) none) := grown_alloc HGA.out _
      clear SG hils HGA
      go_wp2_with fail
      refine (SN.out).mono ?_
      rintro e w1 ⟨hg1, ⟨hbad, rfl⟩ | ⟨hok, vo, ve, rfl, hvo, _⟩⟩
      · have HG1 := Lib.hid (grown_trans HGB.out hg1.out)
        obtain ⟨x, hx⟩ : ∃ x, wrongP ⟨shape, step, gain, att, dec, rel, sus⟩ = x := ⟨_, rfl⟩
        rw [hx] at hbad ⊢
        have hb2 : (x != 0) = true := by simpa using hbad
        clear hg1 hbad hx SN HGB PC2 OK
        go_wp2_with fail
        go_ret
        exact ⟨rfl, HG1.out⟩
      · have HG1 := Lib.hid (grown_trans HGB.out hg1.out)
        have okp := OK.out hok
        obtain ⟨ya, yb, hys, hla, hlb, hxa, hxb⟩ := PC2.out okp
        rw [hys] at hvo
        obtain ⟨ao, co, hvo2, hel⟩ := sl_open hvo.out
        subst hvo2
        have c2 : w1.cell? ⟨w.heap.size, 2, none⟩ = some (.float .f64 gain) := by
          refine grown_cell hg1.out (p := ⟨w.heap.size, 2, none⟩) ?_ (by simp)
          refine grown_cell (grown_alloc (grown_refl _ none) _) (p := ⟨w.heap.size, 2, none⟩) ?_ (by simp)
          rw [cell_of (heap_alloc_new _ _)]
          rfl
        obtain ⟨m, m1, m2, m3, hlo⟩ : ∃ m, rg m = rg gain ∧ rg m < top ∧ (sg m = false ∨ rg m = 0) ∧ ((FloatKind.f64.format.order gain 0 = some .lt ∧ fneg gain = m) ∨ ((FloatKind.f64.format.order gain 0 = some .gt ∨ FloatKind.f64.format.order gain 0 = some .eq) ∧ m = gain)) := by
          rcases loudest okp.gain with ⟨h1, m, h2, h3, h4, h5⟩ | ⟨h1, h2, h3⟩
          · exact ⟨m, h3, h4, h5, .inl ⟨h1, h2⟩⟩
          · exact ⟨gain, rfl, h2, h3, .inr ⟨h1, rfl⟩⟩
        have PIECE : Hid (∀ q y, [ya, yb][q]? = some y → (∀ x ∈ y, rg x ≤ rg m) ∧ (q = 0 ∧ y.length = n ∨ q = 1 ∧ y.length = r)) := by
          intro q y hy
          rw [m1]
          match q, hy with
          | 0, hy => simp at hy; subst hy; exact ⟨hxa, .inl ⟨rfl, hla⟩⟩
          | 1, hy => simp at hy; subst hy; exact ⟨hxb, .inr ⟨rfl, hlb⟩⟩
          | q + 2, hy => simp at hy
        have WI := Lib.hid (fun x => within_of (x := x) (m := m) m2 m3)
        have HEL := Lib.hid hel
        simp only [List.length_cons, List.length_nil] at *
        clear hg1 hok hvo hel hys hla hlb hxa hxb SN HGB PC2 OK okp m1 m2 m3
        obtain ⟨ys, hys⟩ : ∃ ys, [ya, yb] = ys := ⟨_, rfl⟩
        have HYS : Hid (ys.length = 2) := by unfold Hid; rw [← hys]; rfl
        rw [hys] at HEL PIECE
        clear hys HO hs3
        rcases hlo with ⟨h0, hm⟩ | ⟨h0 | h0, rfl⟩
        all_goals
          go_wp2_with fail
          go_loop [85, 16] (fun i c => ∃ q C : Nat, q ≤ 2 ∧ C ≤ 4000 ∧ i = .int .i64 q ∧ c = .int .i64 C ∧ Hid ((q = 0 ∧ C = 0) ∨ (q = 1 ∧ C = n) ∨ (q = 2 ∧ C = n + r))) (fun i _ => 2 - (intOf i).toNat)
          case atStart => exact ⟨0, 0, by omega, by omega, rfl, rfl, .inl ⟨rfl, rfl⟩⟩
          case round =>
            obtain ⟨q, C, hq, hC, rfl, rfl, HQ⟩ := hrel
            by_cases hlt : q < 2
            · obtain ⟨y, hy⟩ : ∃ y, ys[q]? = some y := ⟨ys[q]'(by rw [HYS.out]; exact hlt), List.getElem?_eq_getElem _⟩
              obtain ⟨hxs, hcase⟩ := PIECE.out q y hy
              obtain ⟨b2, o2, u2, hao, hc2, hp2⟩ := HEL.out q y hy
              obtain ⟨a3, c3, hu2, hel3⟩ := sl_open hp2.fls
              subst hao hu2
              obtain ⟨L, hL⟩ : ∃ L, y.length = L := ⟨_, rfl⟩
              rw [hL] at hc2 hcase
              have HL := Lib.hid hL
              have HXS := Lib.hid hxs
              have HEL3 := Lib.hid hel3
              have HN : Hid ((q + 1 = 1 ∧ C + L = n) ∨ (q + 1 = 2 ∧ C + L = n + r)) := by unfold Hid; rcases HQ.out with h | h | h <;> omega
              have hCL : C + L ≤ 4000 := by rcases HN.out with h | h <;> omega
              clear hy hel3 hp2 hxs hL hcase HQ HEL PIECE HYS
              go_wp2_with fail
              go_loop [91, 16] (fun j c => ∃ k : Nat, k ≤ L ∧ j = .int .i64 k ∧ c = .int .i64 ((C + k : Nat) : Int)) (fun j _ => L - (intOf j).toNat)
              case atStart => exact ⟨0, by omega, rfl, rfl⟩
              case round =>
                obtain ⟨k, hk, rfl, rfl⟩ := hrel
                obtain ⟨Ck, hCk⟩ : ∃ Ck, C + k = Ck := ⟨_, rfl⟩
                have hCk2 : Ck ≤ 4000 := by omega
                rw [hCk]
                by_cases hltk : k < L
                · obtain ⟨x, hx⟩ : ∃ x, y[k]? = some x := ⟨y[k]'(by rw [HL.out]; exact hltk), List.getElem?_eq_getElem _⟩
                  obtain ⟨b4, o4, u4, ha4, hc4, hu4⟩ := HEL3.out k x hx
                  subst ha4 hu4
                  obtain ⟨w1', w2'⟩ := WI.out x (HXS.out x (List.mem_of_getElem? hx))
                  obtain ⟨nm, hnm⟩ : ∃ nm, fneg m = nm := ⟨_, rfl⟩
                  rw [hnm] at w1'
                  have d1 : (FloatKind.f64.format.order x nm == some .gt || FloatKind.f64.format.order x nm == some .eq) = true := by rcases w1' with h | h <;> rw [h] <;> rfl
                  have d2 : (FloatKind.f64.format.order x m == some .lt || FloatKind.f64.format.order x m == some .eq) = true := by rcases w2' with h | h <;> rw [h] <;> rfl
                  have HCK := Lib.hid hCk
                  clear hx w1' w2' hc2 hCk
                  go_wp2_with fail
                  go_round
                  case rel => exact ⟨k + 1, by omega, by go_num, by rw [← HCK.out]; go_num⟩
                  case measure => simp [intOf]; omega
                · obtain rfl : k = L := by omega
                  have HCK := Lib.hid hCk
                  clear hCk
                  go_wp2_with fail
                  go_round
                  case rel => exact ⟨_, _, _, _, _, ⟨q + 1, by omega, Ck, by omega, rfl, rfl, by unfold Hid; rw [← HCK.out]; exact .inr HN.out⟩, rfl, rfl, rfl, rfl, by go_num⟩
                  case measure => simp [intOf]; omega
            · obtain rfl : q = 2 := by omega
              have hCn : C = n + r := by rcases HQ.out with h | h | h <;> omega
              have hCi : (n : Int) + r = (C : Int) := by omega
              clear hCn
              go_wp2_with fail
              go_ret
              exact ⟨rfl, HG1.out⟩

end Go.Proofs.Ytadaegnkclleaaa.VBndL
