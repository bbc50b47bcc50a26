/- The reference's voice: piece by piece. -/
import Derived.Test.YtadaegnkclleaaaVRefW
namespace Go.Proofs.Ytadaegnkclleaaa.VRSing
open Go Ieee Go.RowKit Go.Proofs.Ytadaegnkclleaaa.VMod Go.Proofs.Ytadaegnkclleaaa.VWalk Go.Proofs.Ytadaegnkclleaaa.VLevel Go.Proofs.Ytadaegnkclleaaa.VRender Go.Proofs.Ytadaegnkclleaaa.VSing Go.Proofs.Ytadaegnkclleaaa.VHeld Go.Proofs.Ytadaegnkclleaaa.VRefS Go.Proofs.Ytadaegnkclleaaa.VRefW Go.Proofs.Ytadaegnkclleaaa.Hp Go.Proofs.Ytadaegnkclleaaa.Rd
set_option linter.unusedVariables false

/-- A piece of the reference's. -/
def RR (w : World) (u : Value) (ys : List Nat) : Prop := ∃ base, w.ownsRow base 23 1 u ys.length (ys.map (Value.float .f64))

theorem RR.gr {B : Nat} {S : List TypeId} {w w' : World} {u : Value} {ys : List Nat} (h : RR w u ys) (hg : Gr B S w w') (ht : 23 ∉ S) : RR w' u ys := h.imp fun base h => owns_gr h hg ht

theorem RR.fls {w : World} {u : Value} {ys : List Nat} (h : RR w u ys) : Fls w u ys := by
  obtain ⟨base, h⟩ := h
  refine owns_sl h (by simp) fun i u x hu hx => ?_
  rw [List.getElem?_map, hx] at hu
  simpa using hu.symm

theorem play_snoc (p : Pt) (n : Nat) (s : St) : (play p (n + 1) s).1 = (play p n s).1 ++ [smp p (after p n s)] := by
  induction n generalizing s with
  | zero => rfl
  | succ n ih =>
    show smp p s :: (play p (n + 1) (next p s)).1 = smp p s :: (play p n (next p s)).1 ++ [smp p (after p n (next p s))]
    rw [ih]
    rfl

theorem cell_lt {w : World} {b o : Nat} {v : Value} (h : w.cell? ⟨b, o, none⟩ = some v) : b < w.heap.size := by
  rcases Nat.lt_or_ge b w.heap.size with h1 | h1
  · exact h1
  · exfalso
    unfold World.cell? at h
    rw [Array.getElem?_eq_none h1] at h
    cases h

theorem gr_cell {B : Nat} {S : List TypeId} {w w' : World} {b o : Nat} {v : Value} (hg : Gr B S w w') (hb : b < B) (h : w.cell? ⟨b, o, none⟩ = some v) : w'.cell? ⟨b, o, none⟩ = some v := by
  have hl := cell_lt h
  have h1 : w.heap[b]? = some w.heap[b] := Array.getElem?_eq_getElem hl
  have h2 := hg.old h1 hb
  unfold World.cell? at h ⊢
  rw [h2, ← h1]
  exact h

theorem one_cell {w : World} {base : Nat} {e : TypeId} {v : Value} {n : Nat} {xs : List Value} (h : w.ownsRow base e 1 v n xs) : v.oneCell' = true := by
  rcases owns_cells h with ⟨rfl, _, _⟩ | ⟨g, cap, rfl, _⟩ <;> rfl

/-- What has been done when k pieces are done. -/
structure RRel (B : Nat) (w1 : World) (p : Pt) (ns : List Int) (ys : List (List Nat)) (es : List Int) (k : Nat) (vo ve : Value) (wr : World) (s : St) (t : Nat) (off : Int) : Prop where
  data : ∃ (vs : List Value) (yss : List (List Nat)) (ess : List Int), wr.ownsRow B 40 1 vo k vs ∧ vs.length = k ∧ yss.length = k ∧ ess.length = k ∧ (∀ (i : Nat) (u : Value) (zs : List Nat), vs[i]? = some u → yss[i]? = some zs → RR wr u zs) ∧
    wr.ownsRow B 26 1 ve k (ess.map fun e => Value.int .i64 e) ∧ ys = yss ++ outsP p s (ns.drop k) ∧ es = ess ++ (ns.drop k).map errP
  stand : At p s t off
  ok : OkS s
  frame : Gr B [40, 26] w1 wr

theorem rrel_start {B : Nat} {w1 : World} {p : Pt} {ns : List Int} : RRel B w1 p ns (outsP p st0 ns) (ns.map errP) 0 (.slice none 0 0) (.slice none 0 0) w1 st0 0 (-1) :=
  ⟨⟨[], [], [], World.ownsRow_nil _ _ _ _, rfl, rfl, rfl, fun i u ys h => by simp at h, World.ownsRow_nil _ _ _ _, rfl, rfl⟩, at_start p, st0_ok, .refl _ _ _⟩

theorem rrel_next {B : Nat} {w1 wr w2 w3 w5 : World} {k t' : Nat} {p : Pt} {ns : List Int} {ys : List (List Nat)} {es : List Int} {vo' ve' u : Value} {s : St} {n off' : Int} {vs : List Value} {yss : List (List Nat)} {ess : List Int}
    (hp : OkP p) (e1 : vs.length = k) (e2 : yss.length = k) (e3 : ess.length = k) (e4 : ∀ (i : Nat) (u : Value) (zs : List Nat), vs[i]? = some u → yss[i]? = some zs → RR wr u zs) (e5 : ys = yss ++ outsP p s (ns.drop k)) (e6 : es = ess ++ (ns.drop k).map errP)
    (hok : OkS s) (hf : Gr B [40, 26] w1 wr) (hn : ns[k]? = some n) (hg2 : wr.grownBy w2 none) (hu : RR w2 u (outP p s n)) (hat : At p (nextP p s n) t' off')
    (h3 : w3.ownsRow B 40 1 vo' (k + 1) (vs ++ [u])) (hg3 : Gr B [40] w2 w3) (h5 : w5.ownsRow B 26 1 ve' (k + 1) ((ess ++ [errP n]).map fun e => Value.int .i64 e)) (hg5 : Gr B [26] w3 w5) :
    RRel B w1 p ns ys es (k + 1) vo' ve' w5 (nextP p s n) t' off' := by
  have gb : Gr B [40, 26] w2 w5 := (hg3.more (by simp)).trans (hg5.more (by simp))
  have ga : Gr B [40, 26] wr w5 := (Gr.of_none hg2).trans gb
  refine ⟨⟨vs ++ [u], yss ++ [outP p s n], ess ++ [errP n], owns_gr h3 hg5 (by simp), by simp [e1], by simp [e2], by simp [e3], ?_, h5, outsP_step hn e5, errs_step hn e6⟩, hat, nextP_ok hp hok n, hf.trans ga⟩
  intro i v zs hv hz
  by_cases hi : i < k
  · rw [List.getElem?_append_left (by omega)] at hv hz
    exact (e4 i v zs hv hz).gr ga (by simp)
  · have hik : i = k := by
      have := (List.getElem?_eq_some_iff.1 hv).1
      simp at this
      omega
    subst hik
    rw [List.getElem?_append_right (by omega), e1, Nat.sub_self] at hv
    rw [List.getElem?_append_right (by omega), e2, Nat.sub_self] at hz
    simp at hv hz
    subst hv hz
    exact hu.gr gb (by simp)

def RSingPost (p : Pt) (ns : List Int) (w : World) (e : Ending) (w' : World) : Prop := Hid (w.grownBy w' none) ∧
  ((wrongP p ≠ 0 ∧ e = .returned (.tuple #[.slice none 0 0, .slice none 0 0, .int .i64 (wrongP p)])) ∨
   (wrongP p = 0 ∧ ∃ vo ve, e = .returned (.tuple #[vo, ve, .int .i64 0]) ∧ Hid (Sl RR w' vo (outsP p st0 ns)) ∧ Hid (Ils w' ve (ns.map errP))))

theorem info23 : (Try.prog.info? 23).map (fun i => (i.zero, i.size, i.bytes)) = some (some (.float .f64 0), 1, 8) := by kernel_rfl

set_option maxHeartbeats 8000000 in
set_option maxRecDepth 100000 in
theorem rsing_calls (p : Pt) (v : Value) (ns : List Int) (w : World) (hv : Ils w v ns) (hr : ∀ n ∈ ns, -9223372036854775808 ≤ n ∧ n ≤ 9223372036854775807) (hl : ns.length ≤ 5864062014804) :
    Calls Try.prog 17 #[.agg #[.int .i64 p.shape, .int .u32 p.step, .float .f64 p.gain, .int .i64 p.att, .int .i64 p.dec, .int .i64 p.rel, .int .i64 p.sus], v] w fun e w' => RSingPost p ns w e w' := by
  obtain ⟨av, cv, rfl, hel⟩ := sl_open hv
  have HEL := Lib.hid hel
  have HRG := Lib.hid hr
  obtain ⟨m, hm⟩ : ∃ m, ns.length = m := ⟨_, rfl⟩
  have HM := Lib.hid hm
  rw [hm] at hl ⊢
  have NEW := Lib.hid (fun w => wrong_calls p w)
  have HG0 : Hid (w.grownBy (w.alloc (.cells #[.int .i64 p.shape, .int .u32 p.step, .float .f64 p.gain, .int .i64 p.att, .int .i64 p.dec, .int .i64 p.rel, .int .i64 p.sus] 33)) none) := grown_alloc (grown_refl _ _) _
  have hbox := heap_alloc_new w (.cells #[.int .i64 p.shape, .int .u32 p.step, .float .f64 p.gain, .int .i64 p.att, .int .i64 p.dec, .int .i64 p.rel, .int .i64 p.sus] 33)
  have HBOX := Lib.hid hbox
  clear hv hel hr hm hbox
  go_enter Try.func17, Try.ntmps17
  go_wp2_with fail
  refine (NEW.out _).mono ?_
  rintro e w1 ⟨rfl, hg1⟩
  have HG1 := Lib.hid (grown_trans HG0.out hg1.out)
  have hb1 := (Gr.of_none (B := w.heap.size) (S := []) hg1.out).keep HBOX.out (by simp)
  have HB1 := Lib.hid hb1
  obtain ⟨B, hB⟩ : ∃ B, w.heap.size = B := ⟨_, rfl⟩
  have hBw : B ≤ w1.heap.size := by rw [← hB]; exact HG1.out.size
  rw [hB] at HB1
  simp only [hB]
  obtain ⟨r, hrw⟩ : ∃ r, wrongP p = r := ⟨_, rfl⟩
  have HRW := Lib.hid hrw
  rw [hrw]
  clear hrw
  by_cases hbad : r = 0
  rotate_left
  · have hb2 : (r != 0) = true := by simpa using hbad
    have HBAD := Lib.hid hbad
    clear hg1 hbad NEW hb1 HBOX HG0
    go_wp2_with fail
    go_ret3
    exact ⟨HG1.out, .inl ⟨by rw [HRW.out]; exact HBAD.out, by rw [HRW.out]; rfl⟩⟩
  subst hbad
  have HP := Lib.hid (okP_of HRW.out)
  have HOK := HRW
  have HSR : Hid (RRel B w1 p ns (outsP p st0 ns) (ns.map errP) 0 (.slice none 0 0) (.slice none 0 0) w1 st0 0 (-1)) := rrel_start
  obtain ⟨ys, hys⟩ : ∃ ys, outsP p st0 ns = ys := ⟨_, rfl⟩
  obtain ⟨es, hes⟩ : ∃ es, ns.map errP = es := ⟨_, rfl⟩
  have HYS := Lib.hid hys
  have HES := Lib.hid hes
  rw [hys, hes] at HSR
  have HEL1 : Hid (∀ i x, ns[i]? = some x → ∃ b off u, av = some ⟨b, off, none⟩ ∧ w1.cell? ⟨b, off + i, none⟩ = some u ∧ u = .int .i64 x ∧ b < B) := by
    intro i x hx
    obtain ⟨b, off, u, h1, h2, h3⟩ := HEL.out i x hx
    refine ⟨b, off, u, h1, HG1.out.cell h2 (by simp), h3, ?_⟩
    rw [← hB]
    exact cell_lt h2
  have HBq := Lib.hid hB
  clear hg1 NEW hys hes hb1 HBOX HG0 HEL hB
  go_wp2_with fail
  go_loopw [8, 9, 10, 11, 23] (fun vo ve tt oo i wr => ∃ (k t : Nat) (s : St) (off : Int), k ≤ m ∧ t ≤ k * 65536 ∧ i = .int .i64 k ∧ tt = .int .i64 t ∧ oo = .int .i64 off ∧ Hid (RRel B w1 p ns ys es k vo ve wr s t off)) (fun _ _ _ _ i _ => m - (intOf i).toNat)
  case atStart => exact ⟨0, 0, st0, -1, Nat.zero_le _, Nat.zero_le _, rfl, rfl, rfl, HSR⟩
  case round =>
    clear HSR
    obtain ⟨k, t, s, off, hk, ht, rfl, rfl, rfl, HSR⟩ := hrel
    by_cases hlt : k < m
    · obtain ⟨wo, rfl⟩ : ∃ wo, wo = wr := ⟨_, rfl⟩
      obtain ⟨n, hnk⟩ : ∃ n, ns[k]? = some n := ⟨ns[k]'(by rw [HM.out]; exact hlt), List.getElem?_eq_getElem _⟩
      obtain ⟨hn0, hn1⟩ := HRG.out n (List.mem_of_getElem? hnk)
      obtain ⟨b, of, u, rfl, hcu, rfl, hbB⟩ := HEL1.out k n hnk
      have HNK := Lib.hid hnk
      obtain ⟨⟨vs, yss, ess, h1, h2, h3, h4, h5, h6, h7, h8⟩, hat, hso, hfr⟩ := HSR.out
      have hcell : wo.cell? ⟨b, of + k, none⟩ = some (.int .i64 n) := gr_cell hfr hbB hcu
      have hbox := hfr.keep HB1.out (by simp)
      have HBOX := Lib.hid hbox
      have H1 := Lib.hid h1
      have H2 := Lib.hid h2
      have H3 := Lib.hid h3
      have H4 := Lib.hid h4
      have H5 := Lib.hid h5
      have H6 := Lib.hid h6
      have H7 := Lib.hid h7
      have H8 := Lib.hid h8
      have HAT := Lib.hid hat
      have HS := Lib.hid hso
      have HF := Lib.hid hfr
      have hws : B ≤ wo.heap.size := Nat.le_trans hBw hfr.size
      have hT : t ≤ 384307168202256000 := by omega
      have HT := Lib.hid ht
      have hho := at_ho hat
      have HAO := Lib.hid (at_off HP.out hat)
      clear hnk hcu h1 h2 h3 h4 h5 h6 h7 h8 hat hso hfr HSR hbox hbB ht HEL1 HB1
      obtain ⟨N, hN⟩ : ∃ N, askN n = N := ⟨_, rfl⟩
      obtain ⟨OFF, hOFF⟩ : ∃ O, (if n < 0 then (if off < 0 then (t : Int) else off) else off) = O := ⟨_, rfl⟩
      obtain ⟨S, hS⟩ : ∃ S, fromS p s n = S := ⟨_, rfl⟩
      have HNN := Lib.hid hN
      have HSS := Lib.hid hS
      have HATF : Hid (At p S t OFF) := by
        unfold Hid
        rw [← hS, ← hOFF]
        unfold fromS
        by_cases hneg : n < 0
        · rw [if_pos hneg, if_pos hneg]; exact HAO.out
        · rw [if_neg hneg, if_neg hneg]; exact HAT.out
      have HOKF : Hid (OkS S) := by
        unfold Hid
        rw [← hS]
        unfold fromS
        by_cases hneg : n < 0
        · rw [if_pos hneg]; exact off_ok HP.out HS.out
        · rw [if_neg hneg]; exact HS.out
      have HOFF := Lib.hid hOFF
      clear hN hS HAO hOFF
      go_upto_if 28 with fail
      go_cut [11, 13, 23] from 23 to 67 (fun vo vn vi wx => vo = .int .i64 OFF ∧ vn = .int .i64 N ∧ vi = .int .i64 (k : Int) ∧ wo = wx)
      case first =>
        by_cases hneg : n < 0
        · have hx := HNN.out
          unfold askN at hx
          rw [if_pos hneg] at hx
          by_cases hoff : off < 0
          · have hy := HOFF.out
            rw [if_pos hneg, if_pos hoff] at hy
            have HX := Lib.hid hx
            have HY := Lib.hid hy
            clear hx hy
            by_cases hmin : n = -9223372036854775808
            · subst hmin
              have hmw : wrap64 9223372036854775808 = -9223372036854775808 := by decide +kernel
              go_wp2_with fail
              go_meet
              exact ⟨by rw [← HY.out], by rw [← HX.out, if_pos trivial], rfl, rfl⟩
            · have hneg2 : 0 < -n := by omega
              go_wp2_with fail
              go_meet
              exact ⟨by rw [← HY.out], by rw [← HX.out, if_neg hmin], rfl, rfl⟩
          · have hy := HOFF.out
            rw [if_pos hneg, if_neg hoff] at hy
            have HX := Lib.hid hx
            have HY := Lib.hid hy
            clear hx hy
            by_cases hmin : n = -9223372036854775808
            · subst hmin
              have hmw : wrap64 9223372036854775808 = -9223372036854775808 := by decide +kernel
              go_wp2_with fail
              go_meet
              exact ⟨by rw [← HY.out], by rw [← HX.out, if_pos trivial], rfl, rfl⟩
            · have hneg2 : 0 < -n := by omega
              go_wp2_with fail
              go_meet
              exact ⟨by rw [← HY.out], by rw [← HX.out, if_neg hmin], rfl, rfl⟩
        · have hx := HNN.out
          have hy := HOFF.out
          unfold askN at hx
          rw [if_neg hneg] at hx hy
          have HX := Lib.hid hx
          have HY := Lib.hid hy
          clear hx hy
          go_wp2_with fail
          go_meet
          exact ⟨by rw [← HY.out], by rw [← HX.out], rfl, rfl⟩
      case rest =>
        obtain ⟨rfl, rfl, rfl, rfl⟩ := hcut
        by_cases hq0 : N < 0
        · have hgood : goodN n = false := by unfold goodN; rw [HNN.out]; simp; omega
          have hofs := HSS.out
          have HOUT : Hid (outP p s (n) = []) := by unfold Hid outP; rw [hgood]; rfl
          have HERR : Hid (errP (n) = 3) := by unfold Hid errP; rw [hgood]; rfl
          have HNX : Hid (nextP p s (n) = S) := by unfold Hid nextP; rw [hgood, hofs]; rfl
          clear hgood hofs
          go_wp2_with (first
            | (at_builtin; refine append_one rfl _ _ 35 40 (.slice none 0 0) 24 Try.underlying35 info40 rfl rfl B u8 k vs rfl (.slice none 0 0) rfl H1.out rfl (by omega) (by decide) hws ?_; intro vo5 w5 HO5 HG5; have HB5 : Hid (B ≤ w5.heap.size) := Nat.le_trans hws HG5.out.size; have H6c : Hid (w5.ownsRow B 26 1 u9 k (ess.map fun e => Value.int .i64 e)) := owns_gr H6.out HG5.out (by simp))
            | (at_builtin; refine append_one rfl _ _ 36 26 (.int .i64 0) 8 Try.underlying36 info26 rfl rfl B u9 k _ rfl (.int .i64 3) rfl H6c.out rfl (by omega) (by decide) HB5.out ?_; intro ve6 w6 HO6 HG6))
          have HO6b : Hid (w6.ownsRow B 26 1 ve6 (k + 1) ((ess ++ [errP (n)]).map fun e => Value.int .i64 e)) := by
            unfold Hid
            rw [HERR.out, List.map_append]
            exact HO6.out
          have HSN : Hid (RRel B w1 p ns ys es (k + 1) vo5 ve6 w6 (nextP p s (n)) t OFF) := rrel_next HP.out H2.out H3.out H4.out H5.out H7.out H8.out HS.out HF.out HNK.out (grown_refl _ _) (by rw [HOUT.out]; exact ⟨0, World.ownsRow_nil _ _ _ _⟩) (by rw [HNX.out]; exact HATF.out) HO5.out HG5.out HO6b.out HG6.out
          clear HO5 HG5 HO6 HG6 HO6b H6c
          go_roundw
          case rel => exact ⟨k + 1, t, _, _, by omega, Nat.le_trans HT.out (Nat.mul_le_mul_right _ (Nat.le_succ k)), by go_num, rfl, rfl, HSN⟩
          case measure => simp [intOf]; omega
        obtain ⟨q, hq⟩ : ∃ q : Nat, N = (q : Int) := ⟨N.toNat, by omega⟩
        subst hq
        have hask := HNN.out
        have hofs := HSS.out
        by_cases hbig : 65536 < q
        · have hgood : goodN n = false := by unfold goodN; rw [hask]; simp; omega
          have hb3 : decide ((65536 : Int) < (q : Int)) = true := by simp; omega
          clear hask
          have HOUT : Hid (outP p s (n) = []) := by unfold Hid outP; rw [hgood]; rfl
          have HERR : Hid (errP (n) = 3) := by unfold Hid errP; rw [hgood]; rfl
          have HNX : Hid (nextP p s (n) = S) := by unfold Hid nextP; rw [hgood, hofs]; rfl
          clear hgood hofs
          go_wp2_with (first
            | (at_builtin; refine append_one rfl _ _ 35 40 (.slice none 0 0) 24 Try.underlying35 info40 rfl rfl B u8 k vs rfl (.slice none 0 0) rfl H1.out rfl (by omega) (by decide) hws ?_; intro vo5 w5 HO5 HG5; have HB5 : Hid (B ≤ w5.heap.size) := Nat.le_trans hws HG5.out.size; have H6c : Hid (w5.ownsRow B 26 1 u9 k (ess.map fun e => Value.int .i64 e)) := owns_gr H6.out HG5.out (by simp))
            | (at_builtin; refine append_one rfl _ _ 36 26 (.int .i64 0) 8 Try.underlying36 info26 rfl rfl B u9 k _ rfl (.int .i64 3) rfl H6c.out rfl (by omega) (by decide) HB5.out ?_; intro ve6 w6 HO6 HG6))
          have HO6b : Hid (w6.ownsRow B 26 1 ve6 (k + 1) ((ess ++ [errP (n)]).map fun e => Value.int .i64 e)) := by
            unfold Hid
            rw [HERR.out, List.map_append]
            exact HO6.out
          have HSN : Hid (RRel B w1 p ns ys es (k + 1) vo5 ve6 w6 (nextP p s (n)) t OFF) := rrel_next HP.out H2.out H3.out H4.out H5.out H7.out H8.out HS.out HF.out HNK.out (grown_refl _ _) (by rw [HOUT.out]; exact ⟨0, World.ownsRow_nil _ _ _ _⟩) (by rw [HNX.out]; exact HATF.out) HO5.out HG5.out HO6b.out HG6.out
          clear HO5 HG5 HO6 HG6 HO6b H6c
          go_roundw
          case rel => exact ⟨k + 1, t, _, _, by omega, Nat.le_trans HT.out (Nat.mul_le_mul_right _ (Nat.le_succ k)), by go_num, rfl, rfl, HSN⟩
          case measure => simp [intOf]; omega
        · have hgood : goodN n = true := by unfold goodN; rw [hask]; simp; omega
          have hb3 : decide ((65536 : Int) < (q : Int)) = false := by simp; omega
          have HOUT : Hid (outP p s (n) = (play p q S).1) := by unfold Hid outP; rw [hgood, hask, hofs]; rfl
          have HERR : Hid (errP (n) = 0) := by unfold Hid errP; rw [hgood]; rfl
          have HNX : Hid (nextP p s (n) = after p q S) := by unfold Hid nextP; rw [hgood, hask, hofs]; rfl
          have HAT2 := Lib.hid HATF.out
          have HS2 : Hid (OkS S) := HOKF.out
          clear hgood hofs hask
          have SMP := Lib.hid (fun j (hj : j ≤ 65536) w => sample_calls p (after p j S) (t + j) OFF w HP.out (after_ok HS2.out j) (at_after HAT2.out j) (by omega))
          go_wp2_with fail
          clear hcell
          go_loopw [10, 14, 15] (fun tt l i wr => ∃ (j T : Nat), j ≤ q ∧ T ≤ 384307168202400000 ∧ i = .int .i64 j ∧ tt = .int .i64 T ∧ Hid (T = t + j) ∧ Hid (wr.ownsRow wo.heap.size 23 1 l j ((play p j S).1.map (Value.float .f64))) ∧ Hid (wo.grownBy wr none)) (fun _ _ i _ => q - (intOf i).toNat)
          case atStart => exact ⟨0, t, Nat.zero_le _, by omega, rfl, rfl, rfl, World.ownsRow_nil _ _ _ _, grown_refl _ _⟩
          case round =>
            obtain ⟨j, T, hj, hTT, rfl, rfl, HTJ, HOW, HGQ⟩ := hrel
            by_cases hltj : j < q
            · have SM := SMP.out j (by omega)
              rw [← HTJ.out] at SM
              have HSM := Lib.hid SM
              obtain ⟨z, hz⟩ : ∃ z, smp p (after p j S) = z := ⟨_, rfl⟩
              rw [hz] at HSM
              have HZ := Lib.hid hz
              have hbx := (Gr.of_none (B := B) (S := []) HGQ.out).keep HBOX.out (by simp)
              have c0 : wr.cell? ⟨B, 0, none⟩ = some (.int .i64 p.shape) := cell_of hbx 0
              have c1 : wr.cell? ⟨B, 1, none⟩ = some (.int .u32 p.step) := cell_of hbx 1
              have c2 : wr.cell? ⟨B, 2, none⟩ = some (.float .f64 p.gain) := cell_of hbx 2
              have c3 : wr.cell? ⟨B, 3, none⟩ = some (.int .i64 p.att) := cell_of hbx 3
              have c4 : wr.cell? ⟨B, 4, none⟩ = some (.int .i64 p.dec) := cell_of hbx 4
              have c5 : wr.cell? ⟨B, 5, none⟩ = some (.int .i64 p.rel) := cell_of hbx 5
              have c6 : wr.cell? ⟨B, 6, none⟩ = some (.int .i64 p.sus) := cell_of hbx 6
              clear hz SM hbx
              go_upto_region 20 with fail
              go_wp2_with (first
                | (go_at_call 26; refine (HSM.out _).mono ?_; rintro e w3 ⟨rfl, hg3⟩; have HG3 := Lib.hid hg3.out; have HO3 : Hid (w3.ownsRow wo.heap.size 23 1 u14 j ((play p j S).1.map (Value.float .f64))) := owns_gr HOW.out (Gr.of_none (B := wo.heap.size) (S := []) hg3.out) (by simp); have HB3 : Hid (wo.heap.size ≤ w3.heap.size) := Nat.le_trans HGQ.out.size hg3.out.size; clear hg3)
                | (at_builtin; refine append_one rfl _ _ 40 23 (.float .f64 0) 8 Try.underlying40 info23 rfl rfl wo.heap.size u14 j _ rfl (.float .f64 z) rfl HO3.out rfl (by omega) (by decide) HB3.out ?_; intro vl5 w5 HO5 HG5))
              have HON : Hid (w5.ownsRow wo.heap.size 23 1 vl5 (j + 1) ((play p (j + 1) S).1.map (Value.float .f64))) := by
                unfold Hid
                rw [play_snoc, List.map_append, HZ.out]
                exact HO5.out
              have HGN : Hid (wo.grownBy w5 none) := (((Gr.of_none (B := wo.heap.size) (S := [23]) HGQ.out).trans (Gr.of_none HG3.out)).trans HG5.out).none
              have HTJ2 : Hid (T + 1 = t + (j + 1)) := by unfold Hid; have := HTJ.out; omega
              clear HO5 HG5 HG3 HO3 HB3 c0 c1 c2 c3 c4 c5 c6 HSM
              go_roundw
              case rel => exact ⟨j + 1, T + 1, by omega, by have := HTJ2.out; omega, by go_num, by go_num, HTJ2, HON, HGN⟩
              case measure => simp [intOf]; omega
            · obtain rfl : j = q := by omega
              obtain ⟨a14, c14, hv14⟩ : ∃ a c, u14 = .slice a j c := by
                rcases owns_cells HOW.out with ⟨rfl, rfl, _⟩ | ⟨g, cap, rfl, _⟩
                · exact ⟨_, _, rfl⟩
                · exact ⟨_, _, rfl⟩
              subst hv14
              have HRW : Hid (RR wr (.slice a14 j c14) (play p j S).1) := ⟨wo.heap.size, by rw [play_len]; exact HOW.out⟩
              have HB3 : Hid (B ≤ wr.heap.size) := Nat.le_trans hws HGQ.out.size
              have H1b : Hid (wr.ownsRow B 40 1 u8 k vs) := owns_gr H1.out (Gr.of_none (B := B) (S := []) HGQ.out) (by simp)
              have H6b : Hid (wr.ownsRow B 26 1 u9 k (ess.map fun e => Value.int .i64 e)) := owns_gr H6.out (Gr.of_none (B := B) (S := []) HGQ.out) (by simp)
              go_wp2_with (first
                | (at_builtin; (refine append_one rfl _ _ 35 40 (.slice none 0 0) 24 Try.underlying35 info40 rfl rfl B u8 k vs rfl (.slice a14 j c14) rfl H1b.out rfl (by omega) (by decide) HB3.out ?_; intro vo5 w5 HO5 HG5; have HB5 : Hid (B ≤ w5.heap.size) := Nat.le_trans HB3.out HG5.out.size; have H6c : Hid (w5.ownsRow B 26 1 u9 k (ess.map fun e => Value.int .i64 e)) := owns_gr H6b.out HG5.out (by simp)))
                | (at_builtin; refine append_one rfl _ _ 36 26 (.int .i64 0) 8 Try.underlying36 info26 rfl rfl B u9 k _ rfl (.int .i64 0) rfl H6c.out rfl (by omega) (by decide) HB5.out ?_; intro ve6 w6 HO6 HG6))
              have HO6b : Hid (w6.ownsRow B 26 1 ve6 (k + 1) ((ess ++ [errP (n)]).map fun e => Value.int .i64 e)) := by
                unfold Hid
                rw [HERR.out, List.map_append]
                exact HO6.out
              have HSN : Hid (RRel B w1 p ns ys es (k + 1) vo5 ve6 w6 (nextP p s (n)) T OFF) := rrel_next HP.out H2.out H3.out H4.out H5.out H7.out H8.out HS.out HF.out HNK.out HGQ.out (by rw [HOUT.out]; exact HRW.out) (by rw [HNX.out, HTJ.out]; exact at_after HAT2.out j) HO5.out HG5.out HO6b.out HG6.out
              have HT2 : Hid (T ≤ (k + 1) * 65536) := by unfold Hid; rw [HTJ.out, Nat.succ_mul]; exact Nat.add_le_add HT.out (Nat.le_of_not_lt hbig)
              clear HO5 HG5 HO6 HG6 HO6b H6c H1b H6b
              go_roundw
              case rel => exact ⟨k + 1, T, _, _, by omega, HT2.out, by go_num, rfl, rfl, HSN⟩
              case measure => simp [intOf]; omega
    · obtain rfl : k = m := by omega
      obtain ⟨⟨vs, yss, ess, h1, h2, h3, h4, h5, h6, h7, h8⟩, hat, hso, hfr⟩ := HSR.out
      have hd : ns.drop k = [] := List.drop_eq_nil_of_le (by rw [HM.out]; exact Nat.le_refl _)
      rw [hd] at h7 h8
      simp only [outsP, List.append_nil, List.map_nil] at h7 h8
      subst h7 h8
      have hfw := (Gr.of_none (B := B) (S := [40, 26]) HG1.out).trans hfr
      have HF : Hid (w.grownBy wr none) := by
        rw [← HBq.out] at hfw
        exact hfw.none
      have HO := Lib.hid (owns_sl (R := RR) h1 (by rw [h2, h3]) fun i u x hu hx => h5 i u x hu hx)
      have HE := Lib.hid (owns_sl (xs := es) (R := fun _ u x => u = Value.int .i64 x) h6 (by simp) fun i u x hu hx => by
        rw [List.getElem?_map, hx] at hu
        simpa using hu.symm)
      clear h1 h2 h3 h4 h5 h6 hat hso hfr hd HSR hfw
      go_wp2_with fail
      go_ret3
      exact ⟨HF.out, .inr ⟨HOK.out, _, _, rfl, by rw [HYS.out]; exact HO, by rw [HES.out]; exact HE⟩⟩

end Go.Proofs.Ytadaegnkclleaaa.VRSing
